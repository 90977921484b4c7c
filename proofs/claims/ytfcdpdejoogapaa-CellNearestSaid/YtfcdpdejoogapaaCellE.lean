/- Forms and contracts, printed by gx.py. -/
import Derived.Test.YtfcdpdejoogapaaRows
import Derived.Test.YtfcdpdejoogapaaDvUse
import Derived.Test.YtfcdpdejoogapaaDvArg
import Derived.ProofKit
import Derived.Test.YtfcdpdejoogapaaBase
import Derived.Test.YtfcdpdejoogapaaCell
import Derived.Test.YtfcdpdejoogapaaCellB
import Derived.Test.YtfcdpdejoogapaaSort
import Derived.Test.YtfcdpdejoogapaaDvSort
import Derived.Test.YtfcdpdejoogapaaDvHp
import Derived.Test.YtfcdpdejoogapaaRank
import Derived.Test.YtfcdpdejoogapaaDvStab
namespace Go.Proofs.Ytfcdpdejoogapaa
open Go.Det Go.RowKit
set_option linter.unusedVariables false
set_option linter.unusedSimpArgs false
set_option maxRecDepth 100000
def farF (c : List (List Int)) (v : List Int) (i : Nat) : Near := (distD (c.getD i []) v, (i : Int), ())
def farL (c : List (List Int)) (v : List Int) (k : Nat) : List Near := (List.range k).map (farF c v)
theorem farL_len (c : List (List Int)) (v : List Int) (k : Nat) : (farL c v k).length = k := by simp [farL]
theorem farL_snoc {c : List (List Int)} {v : List Int} {k : Nat} (h : k < c.length) : farL c v (k + 1) = farL c v k ++ [(distD c[k] v, (k : Int), ())] := by
  rw [farL, List.range_succ, List.map_append]
  show _ = List.map _ _ ++ _
  simp [farF, h]

/-! The loop rchk1 of wayfinder/wayfinderref13.Check. -/
abbrev rchk1Z := ((List (List Int)) × Int × Unit) × (Unit)
noncomputable def rchk1Sl : Tel ((List (List Int)) × Int × Unit) := .cons 0 (.lst Ell) (.cons 3 (.int .i64) (.nil))
noncomputable def rchk1Bl : BTel (Unit) := .nil
noncomputable def rchk1Fs : List (LForm rchk1Z) := [⟨_, _, rchk1Sl, rchk1Bl, fun x y => (x, y)⟩]
noncomputable def rchk1Alts (R0 : rchk1Z → ((List (List Int)) × Unit) → (Unit) → Prop) (R1 : rchk1Z → (Int × Unit) → (Unit) → Prop) : List (Alt rchk1Z) := [⟨.exit 0, (List (List Int)) × Unit, Unit, .cons 0 (.lst Ell) (.nil), .nil, R0⟩, ⟨.ret, Int × Unit, Unit, .cons 2 (.int .i64) (.nil), .nil, R1⟩]

theorem rchk1Form (l : List (List Int)) (i : Int) (N : rchk1Z → Prop) (R0 : rchk1Z → ((List (List Int)) × Unit) → (Unit) → Prop) (R1 : rchk1Z → (Int × Unit) → (Unit) → Prop) : ((runW Try.prog (KL [(73, rcwK)] []) 100).code none 44 44 (loopBody Try.prog 44 4) (mkT (rchk1Sl.av id (l, (i, ())))) [] (stL false (rchk1Bl.obs id ())) (postL 0 rchk1Fs (rchk1Alts R0 R1) ((l, (i, ())), ()) N)) =
  ( ifp (!leInt (Int.ofNat l.length) i) (idxOk i l.length ∧ ∃ (l' : List AV), ∃ (n : Nat), ∃ (c : Nat), ∃ (x : Bool), ∃ (w : Option Nat), ∃ (e : Nat), nth ((natOf
  i).mul (1 : Nat)) (List.flatMap Ell.f l) = some (AV.vs l' n c x w e) ∧ ∃ (l_1 : List Int), Wk (AV.vs l' n c x w e) (lst Ei32 l_1) ∧ rcwPre (l_1, ()) ∧ ifp
  (!eqInt (cw l_1) (0 : Int)) (True ∧ true = true ∧ R1 ((l, i, ()), ()) (cw l_1, ()) ()) (True ∧ ∃ (l_2 : List (List Int)), Wk (AV.vs (List.flatMap Ell.f l)
  l.length l.length false none (1 : Nat)) (lst Ell l_2) ∧ true = true ∧ N ((l_2, wrapF IntKind.i64 (i.add (1 : Int)), ()), ()))) (True ∧ ∃ (l_1 : List (List
  Int)), Wk (AV.vs (List.flatMap Ell.f l) l.length l.length false none (1 : Nat)) (lst Ell l_1) ∧ true = true ∧ R0 ((l, i, ()), ()) (l_1, ()) ())) := by kernel_rfl

def rchk1Inv : rchk1Z → Prop := fun ((l, (i, ())), ()) => ∃ k : Nat, i = k ∧ k ≤ l.length ∧ l.length ≤ 4096 ∧ (l.take k).all (fun v => decide (cw v = 0)) = true
def rchk1Mu : rchk1Z → Nat := fun ((l, (i, ())), ()) => l.length - i.toNat
def rchk1R0 : rchk1Z → ((List (List Int)) × Unit) → (Unit) → Prop := fun ((l, (i, ())), ()) (l2, _) _ => l2 = l ∧ l.all (fun v => decide (cw v = 0)) = true
def rchk1R1 : rchk1Z → (Int × Unit) → (Unit) → Prop := fun ((l, (i, ())), ()) (r, _) _ => ∃ k : Nat, ∃ h : k < l.length, (l.take k).all (fun v => decide (cw v = 0)) = true ∧ r = cw l[k] ∧ r ≠ 0
noncomputable def rchk1C : LoopC := loopC 0 rchk1Fs (rchk1Alts rchk1R0 rchk1R1) rchk1Inv

theorem rchk1Step : stepsOk Try.prog (KL [(73, rcwK)] []) 100 44 44 (loopBody Try.prog 44 4) 0 false rchk1Fs (rchk1Alts rchk1R0 rchk1R1) rchk1Inv rchk1Mu ⟨_, _, rchk1Sl, rchk1Bl, fun x y => (x, y)⟩ := by
  intro x y hz
  obtain ⟨l, i, _⟩ := x
  obtain _ := y
  refine (rchk1Form l i _ _ _).mpr ?_
  obtain ⟨k, rfl, hk, hl, ht⟩ := hz
  rw [ifp_lt]
  simp only [natOf_nat]
  split
  · rename_i h
    have hkl : k < l.length := by simpa using h
    repeat (first
      | (refine ⟨Nat.le_refl _, ?_⟩)
      | (rw [ifp_pos (roomy_small (by simp only [Nat.add_eq]; omega) (by decide))])
      | (refine ⟨trivial, ?_⟩)
      | (refine ⟨(rfl : true = true), ?_⟩)
      | (refine ⟨idx_ok (by omega), ?_⟩)
      | (refine ⟨idx_ok0 (by omega), ?_⟩)
      | (refine ⟨_, nth_int (by omega), ?_⟩)
      | (refine ⟨_, _, _, _, _, _, nth_lst (by omega), ?_⟩)
      | (refine ⟨_, _, _, _, _, _, nth_lst0 (by omega), ?_⟩)
      | (refine ⟨_, Wk.refl _, ?_⟩)
      | (rw [ifp_pos rfl])
      | (refine ⟨(rfl : (_ : List Nat) = _), ?_⟩)
      | (refine ⟨(rfl : (_ : Code) = _), ?_⟩))
    rw [ifp_ne]
    split
    · rename_i h2
      repeat (first
        | (refine ⟨Nat.le_refl _, ?_⟩)
        | (rw [ifp_pos (roomy_small (by simp only [Nat.add_eq]; omega) (by decide))])
        | (refine ⟨trivial, ?_⟩)
        | (refine ⟨(rfl : true = true), ?_⟩)
        | (refine ⟨idx_ok (by omega), ?_⟩)
        | (refine ⟨idx_ok0 (by omega), ?_⟩)
        | (refine ⟨_, nth_int (by omega), ?_⟩)
        | (refine ⟨_, _, _, _, _, _, nth_lst (by omega), ?_⟩)
        | (refine ⟨_, _, _, _, _, _, nth_lst0 (by omega), ?_⟩)
        | (refine ⟨_, Wk.refl _, ?_⟩)
        | (rw [ifp_pos rfl])
        | (refine ⟨(rfl : (_ : List Nat) = _), ?_⟩)
        | (refine ⟨(rfl : (_ : Code) = _), ?_⟩))
      rw [wsucc (by omega)]
      refine ⟨⟨k + 1, rfl, hkl, hl, ?_⟩, ?_, fun _ _ h => h, fun _ _ h => h, trivial⟩
      · rw [all_take_succ hkl, ht, h2]; rfl
      · show l.length - (k + 1) < l.length - k; omega
    · rename_i h2
      repeat (first
        | (refine ⟨Nat.le_refl _, ?_⟩)
        | (rw [ifp_pos (roomy_small (by simp only [Nat.add_eq]; omega) (by decide))])
        | (refine ⟨trivial, ?_⟩)
        | (refine ⟨(rfl : true = true), ?_⟩)
        | (refine ⟨idx_ok (by omega), ?_⟩)
        | (refine ⟨idx_ok0 (by omega), ?_⟩)
        | (refine ⟨_, nth_int (by omega), ?_⟩)
        | (refine ⟨_, _, _, _, _, _, nth_lst (by omega), ?_⟩)
        | (refine ⟨_, _, _, _, _, _, nth_lst0 (by omega), ?_⟩)
        | (refine ⟨_, Wk.refl _, ?_⟩)
        | (rw [ifp_pos rfl])
        | (refine ⟨(rfl : (_ : List Nat) = _), ?_⟩)
        | (refine ⟨(rfl : (_ : Code) = _), ?_⟩))
      exact ⟨k, hkl, ht, rfl, h2⟩
  · rename_i h
    repeat (first
      | (refine ⟨Nat.le_refl _, ?_⟩)
      | (rw [ifp_pos (roomy_small (by simp only [Nat.add_eq]; omega) (by decide))])
      | (refine ⟨trivial, ?_⟩)
      | (refine ⟨(rfl : true = true), ?_⟩)
      | (refine ⟨idx_ok (by omega), ?_⟩)
      | (refine ⟨idx_ok0 (by omega), ?_⟩)
      | (refine ⟨_, nth_int (by omega), ?_⟩)
      | (refine ⟨_, _, _, _, _, _, nth_lst (by omega), ?_⟩)
      | (refine ⟨_, _, _, _, _, _, nth_lst0 (by omega), ?_⟩)
      | (refine ⟨_, Wk.refl _, ?_⟩)
      | (rw [ifp_pos rfl])
      | (refine ⟨(rfl : (_ : List Nat) = _), ?_⟩)
      | (refine ⟨(rfl : (_ : Code) = _), ?_⟩))
    rw [take_all (by simpa using h)] at ht; exact ⟨rfl, ht⟩
theorem rchk1Ok : LoopOk Try.prog 44 44 (.loop (loopBody Try.prog 44 4)) rchk1C := loop_ok rchk1Mu mixed (KL_ok (cc_cons rcwCc (cc_nil))) rfl (steps_cons rchk1Step (steps_nil))

/-! The loop rchk2 of wayfinder/wayfinderref13.Check. -/
abbrev rchk2Z := ((List (List Int)) × Int × Unit) × (Unit)
noncomputable def rchk2Sl : Tel ((List (List Int)) × Int × Unit) := .cons 0 (.lst Ell) (.cons 5 (.int .i64) (.nil))
noncomputable def rchk2Bl : BTel (Unit) := .nil
noncomputable def rchk2Fs : List (LForm rchk2Z) := [⟨_, _, rchk2Sl, rchk2Bl, fun x y => (x, y)⟩]
noncomputable def rchk2Alts (R0 : rchk2Z → (Unit) → (Unit) → Prop) (R1 : rchk2Z → (Int × Unit) → (Unit) → Prop) : List (Alt rchk2Z) := [⟨.exit 2, Unit, Unit, .nil, .nil, R0⟩, ⟨.ret, Int × Unit, Unit, .cons 2 (.int .i64) (.nil), .nil, R1⟩]

theorem rchk2Form (l : List (List Int)) (i : Int) (N : rchk2Z → Prop) (R0 : rchk2Z → (Unit) → (Unit) → Prop) (R1 : rchk2Z → (Int × Unit) → (Unit) → Prop) : ((runW Try.prog (KL [] []) 100).code none 44 44 (loopBody Try.prog 44 10) (mkT (rchk2Sl.av id (l, (i, ())))) [] (stL false (rchk2Bl.obs id ())) (postL 0 rchk2Fs (rchk2Alts R0 R1) ((l, (i, ())), ()) N)) =
  ( ifp (!leInt (Int.ofNat l.length) i) (idxOk i l.length ∧ ∃ (l' : List AV), ∃ (n : Nat), ∃ (c : Nat), ∃ (x : Bool), ∃ (w : Option Nat), ∃ (e : Nat), nth ((natOf
  i).mul (1 : Nat)) (List.flatMap Ell.f l) = some (AV.vs l' n c x w e) ∧ idxOk (0 : Int) l.length ∧ ∃ (l' : List AV), ∃ (n_1 : Nat), ∃ (c : Nat), ∃ (x : Bool), ∃
  (w : Option Nat), ∃ (e : Nat), nth (0 : Nat) (List.flatMap Ell.f l) = some (AV.vs l' n_1 c x w e) ∧ ifp (!eqInt (Int.ofNat n) (Int.ofNat n_1)) (True ∧ True ∧
  True ∧ True ∧ True ∧ true = true ∧ R1 ((l, i, ()), ()) ((2 : Int), ()) ()) (True ∧ True ∧ True ∧ True ∧ True ∧ ∃ (l_1 : List (List Int)), Wk (AV.vs
  (List.flatMap Ell.f l) l.length l.length false none (1 : Nat)) (lst Ell l_1) ∧ true = true ∧ N ((l_1, wrapF IntKind.i64 (i.add (1 : Int)), ()), ()))) (True ∧
  true = true ∧ R0 ((l, i, ()), ()) () ())) := by kernel_rfl

def rchk2Inv : rchk2Z → Prop := fun ((l, (i, ())), ()) => ∃ k : Nat, i = k ∧ k ≤ l.length ∧ l.length ≤ 4096 ∧ (l.take k).any (fun v => decide (v.length ≠ (l.headD []).length)) = false
def rchk2Mu : rchk2Z → Nat := fun ((l, (i, ())), ()) => l.length - i.toNat
def rchk2R0 : rchk2Z → (Unit) → (Unit) → Prop := fun ((l, (i, ())), ()) _ _ => l.any (fun v => decide (v.length ≠ (l.headD []).length)) = false
def rchk2R1 : rchk2Z → (Int × Unit) → (Unit) → Prop := fun ((l, (i, ())), ()) (r, _) _ => r = 2 ∧ l.any (fun v => decide (v.length ≠ (l.headD []).length)) = true
noncomputable def rchk2C : LoopC := loopC 0 rchk2Fs (rchk2Alts rchk2R0 rchk2R1) rchk2Inv

theorem rchk2Step : stepsOk Try.prog (KL [] []) 100 44 44 (loopBody Try.prog 44 10) 0 false rchk2Fs (rchk2Alts rchk2R0 rchk2R1) rchk2Inv rchk2Mu ⟨_, _, rchk2Sl, rchk2Bl, fun x y => (x, y)⟩ := by
  intro x y hz
  obtain ⟨l, i, _⟩ := x
  obtain _ := y
  refine (rchk2Form l i _ _ _).mpr ?_
  obtain ⟨k, rfl, hk, hl, ht⟩ := hz
  rw [ifp_lt]
  simp only [natOf_nat]
  split
  · rename_i h
    have hkl : k < l.length := by simpa using h
    repeat (first
      | (refine ⟨Nat.le_refl _, ?_⟩)
      | (rw [ifp_pos (roomy_small (by simp only [Nat.add_eq]; omega) (by decide))])
      | (refine ⟨trivial, ?_⟩)
      | (refine ⟨(rfl : true = true), ?_⟩)
      | (refine ⟨idx_ok (by omega), ?_⟩)
      | (refine ⟨idx_ok0 (by omega), ?_⟩)
      | (refine ⟨_, nth_int (by omega), ?_⟩)
      | (refine ⟨_, _, _, _, _, _, nth_lst (by omega), ?_⟩)
      | (refine ⟨_, _, _, _, _, _, nth_lst0 (by omega), ?_⟩)
      | (refine ⟨_, Wk.refl _, ?_⟩)
      | (rw [ifp_pos rfl])
      | (refine ⟨(rfl : (_ : List Nat) = _), ?_⟩)
      | (refine ⟨(rfl : (_ : Code) = _), ?_⟩))
    rw [ifp_ne]
    split
    · rename_i h2
      repeat (first
        | (refine ⟨Nat.le_refl _, ?_⟩)
        | (rw [ifp_pos (roomy_small (by simp only [Nat.add_eq]; omega) (by decide))])
        | (refine ⟨trivial, ?_⟩)
        | (refine ⟨(rfl : true = true), ?_⟩)
        | (refine ⟨idx_ok (by omega), ?_⟩)
        | (refine ⟨idx_ok0 (by omega), ?_⟩)
        | (refine ⟨_, nth_int (by omega), ?_⟩)
        | (refine ⟨_, _, _, _, _, _, nth_lst (by omega), ?_⟩)
        | (refine ⟨_, _, _, _, _, _, nth_lst0 (by omega), ?_⟩)
        | (refine ⟨_, Wk.refl _, ?_⟩)
        | (rw [ifp_pos rfl])
        | (refine ⟨(rfl : (_ : List Nat) = _), ?_⟩)
        | (refine ⟨(rfl : (_ : Code) = _), ?_⟩))
      rw [wsucc (by omega)]
      refine ⟨⟨k + 1, rfl, hkl, hl, ?_⟩, ?_, fun _ _ h => h, fun _ _ h => h, trivial⟩
      · rw [any_take_succ hkl, ht, ← head_get (by omega)]; simp; simp at h2; omega
      · show l.length - (k + 1) < l.length - k; omega
    · rename_i h2
      repeat (first
        | (refine ⟨Nat.le_refl _, ?_⟩)
        | (rw [ifp_pos (roomy_small (by simp only [Nat.add_eq]; omega) (by decide))])
        | (refine ⟨trivial, ?_⟩)
        | (refine ⟨(rfl : true = true), ?_⟩)
        | (refine ⟨idx_ok (by omega), ?_⟩)
        | (refine ⟨idx_ok0 (by omega), ?_⟩)
        | (refine ⟨_, nth_int (by omega), ?_⟩)
        | (refine ⟨_, _, _, _, _, _, nth_lst (by omega), ?_⟩)
        | (refine ⟨_, _, _, _, _, _, nth_lst0 (by omega), ?_⟩)
        | (refine ⟨_, Wk.refl _, ?_⟩)
        | (rw [ifp_pos rfl])
        | (refine ⟨(rfl : (_ : List Nat) = _), ?_⟩)
        | (refine ⟨(rfl : (_ : Code) = _), ?_⟩))
      exact ⟨rfl, any_of_get hkl (by rw [← head_get (by omega)]; simp; simp at h2; omega)⟩
  · rename_i h
    repeat (first
      | (refine ⟨Nat.le_refl _, ?_⟩)
      | (rw [ifp_pos (roomy_small (by simp only [Nat.add_eq]; omega) (by decide))])
      | (refine ⟨trivial, ?_⟩)
      | (refine ⟨(rfl : true = true), ?_⟩)
      | (refine ⟨idx_ok (by omega), ?_⟩)
      | (refine ⟨idx_ok0 (by omega), ?_⟩)
      | (refine ⟨_, nth_int (by omega), ?_⟩)
      | (refine ⟨_, _, _, _, _, _, nth_lst (by omega), ?_⟩)
      | (refine ⟨_, _, _, _, _, _, nth_lst0 (by omega), ?_⟩)
      | (refine ⟨_, Wk.refl _, ?_⟩)
      | (rw [ifp_pos rfl])
      | (refine ⟨(rfl : (_ : List Nat) = _), ?_⟩)
      | (refine ⟨(rfl : (_ : Code) = _), ?_⟩))
    rw [take_all (by simpa using h)] at ht; exact ht
theorem rchk2Ok : LoopOk Try.prog 44 44 (.loop (loopBody Try.prog 44 10)) rchk2C := loop_ok rchk2Mu mixed (KL_ok (cc_nil)) rfl (steps_cons rchk2Step (steps_nil))

/-! wayfinder/wayfinderref13.Check -/
noncomputable def rcheckT : Tel ((List (List Int)) × Unit) := .cons 0 (.lst Ell) (.nil)

theorem rcheckFn (c : List (List Int)) (Q : AV → Prop) : (callW Try.prog (runW Try.prog (KL [(73, rcwK)] [(44, [(4, rchk1C), (10, rchk2C)])]) 200) 44 (rcheckT.cells id (c, ())) (stE false) (fun x st => frzW st x Q)) =
  ( ifp (!leInt (1 : Int) (Int.ofNat c.length)) (Q (AV.int IntKind.i64 (2 : Int))) (ifp (!leInt (Int.ofNat c.length) (4096 : Int)) (Q (AV.int IntKind.i64 (2 :
  Int))) (LoopOk Try.prog (44 : FuncId) (44 : Nat) (loopBody Try.prog (44 : FuncId) (4 : Nat)).loop rchk1C ∧ True ∧ True ∧ ∃ (l : List (List Int)), Wk (AV.vs
  (List.flatMap Ell.f c) c.length c.length false none (1 : Nat)) (lst Ell l) ∧ true = true ∧ rchk1Inv ((l, (0 : Int), ()), ()) ∧ (∀ (c : List (List Int) × Unit)
  (d : Unit), rchk1R0 ((l, (0 : Int), ()), ()) c d → LoopOk Try.prog (44 : FuncId) (44 : Nat) (loopBody Try.prog (44 : FuncId) (10 : Nat)).loop rchk2C ∧ True ∧
  True ∧ ∃ (l : List (List Int)), Wk (AV.vs (List.flatMap Ell.f c.1) c.1.length c.1.length false none (1 : Nat)) (lst Ell l) ∧ true = true ∧ rchk2Inv ((l, (0 :
  Int), ()), ()) ∧ (∀ (c d : Unit), rchk2R0 ((l, (0 : Int), ()), ()) c d → Q (AV.int IntKind.i64 (0 : Int))) ∧ (∀ (c : Int × Unit) (d : Unit), rchk2R1 ((l, (0 :
  Int), ()), ()) c d → Q (AV.int IntKind.i64 c.1)) ∧ True) ∧ (∀ (c : Int × Unit) (d : Unit), rchk1R1 ((l, (0 : Int), ()), ()) c d → Q (AV.int IntKind.i64 c.1)) ∧
  True))) := by kernel_rfl

def rcheckPre : (List (List Int)) × Unit → Prop := fun (c, ()) => True
noncomputable def rcheckRes : (List (List Int)) × Unit → AV := fun (c, ()) => .int .i64 (checkV c)
noncomputable def rcheckK : CallC := valC rcheckT rcheckPre rcheckRes

theorem rcheckVal (c : List (List Int)) (hp : rcheckPre (c, ())) : Val Try.prog 44 (rcheckT.cells id (c, ())) (rcheckRes (c, ())) := by
  refine Val.ofF mixed (KL_ok (cc_cons rcwCc (cc_nil))) (freesC rfl _) (rcheckFn c) ?_
  rw [ifp_lt, ifp_lt]
  split
  · rename_i h; exact tells_int (by rw [checkV, if_pos (by simp at h; omega)])
  · rename_i h
    split
    · rename_i h2; exact tells_int (by rw [checkV, if_pos (by simp at h2; omega)])
    · rename_i h2
      simp at h h2
      have hc : ¬ (c.length < 1 ∨ 4096 < c.length) := by omega
      refine ⟨rchk1Ok, trivial, trivial, c, Wk.refl _, (by first | exact trivial | exact rfl), ⟨0, rfl, by omega, by omega, by simp⟩, fun d _ hr => ?_, fun d _ hr => ?_, trivial⟩
      · obtain ⟨l2, _⟩ := d
        obtain ⟨rfl, ha⟩ := hr
        refine ⟨rchk2Ok, trivial, trivial, l2, Wk.refl _, (by first | exact trivial | exact rfl), ⟨0, rfl, by omega, by omega, by simp⟩, fun _ _ hr => ?_, fun d _ hr => ?_, trivial⟩
        · have hr' : l2.any (fun v => decide (v.length ≠ (l2.headD []).length)) = false := hr
          exact tells_int (by rw [checkV_zero hc ha, hr', if_neg (by simp)])
        · obtain ⟨r, _⟩ := d
          obtain ⟨rfl, hr'⟩ := hr
          exact tells_int (by rw [checkV_zero hc ha, if_pos hr'])
      · obtain ⟨r, _⟩ := d
        obtain ⟨k, hk, ha, rfl, hn⟩ := hr
        exact tells_int (checkV_first hc hk ha hn).symm
theorem rcheckCc : CcOk Try.prog 44 rcheckK := val_ok rfl (fun ⟨c, _⟩ h => rcheckVal c h)

/-! wayfinder/wayfinderref13.both -/
noncomputable def rboth13T : Tel ((List (List Int)) × (List Int) × Unit) := .cons 0 (.lst Ell) (.cons 1 (.lst Ei32) (.nil))

theorem rboth13Fn (c : List (List Int)) (v : List Int) (Q : AV → Prop) : (callW Try.prog (runW Try.prog (KL [(73, rcwK), (44, rcheckK)] []) 200) 60 (rboth13T.cells id (c, (v, ()))) (stE false) (fun x st => frzW st x Q)) =
  ( ∃ (l : List (List Int)), Wk (AV.vs (List.flatMap Ell.f c) c.length c.length false none (1 : Nat)) (lst Ell l) ∧ rcheckPre (l, ()) ∧ ifp (eqInt (checkV l) (0 :
  Int)) (∃ (l : List Int), Wk (AV.vs (List.flatMap Ei32.f v) v.length v.length false none (1 : Nat)) (lst Ei32 l) ∧ rcwPre (l, ()) ∧ ifp (eqInt (cw l) (0 : Int))
  (idxOk (0 : Int) c.length ∧ ∃ (l' : List AV), ∃ (n : Nat), ∃ (c_1 : Nat), ∃ (x : Bool), ∃ (w : Option Nat), ∃ (e : Nat), nth (0 : Nat) (List.flatMap Ell.f c) =
  some (AV.vs l' n c_1 x w e) ∧ ifp (!eqInt (Int.ofNat v.length) (Int.ofNat n)) (Q (AV.int IntKind.i64 (2 : Int))) (Q (AV.int IntKind.i64 (cw l)))) (Q (AV.int
  IntKind.i64 (cw l)))) (ifp (eqInt (checkV l) (0 : Int)) (idxOk (0 : Int) c.length ∧ ∃ (l' : List AV), ∃ (n : Nat), ∃ (c_1 : Nat), ∃ (x : Bool), ∃ (w : Option
  Nat), ∃ (e : Nat), nth (0 : Nat) (List.flatMap Ell.f c) = some (AV.vs l' n c_1 x w e) ∧ ifp (!eqInt (Int.ofNat v.length) (Int.ofNat n)) (Q (AV.int IntKind.i64
  (2 : Int))) (Q (AV.int IntKind.i64 (checkV l)))) (Q (AV.int IntKind.i64 (checkV l))))) := by kernel_rfl

def rboth13Pre : (List (List Int)) × (List Int) × Unit → Prop := fun (c, (v, ())) => True
noncomputable def rboth13Res : (List (List Int)) × (List Int) × Unit → AV := fun (c, (v, ())) => .int .i64 (bothV c v)
noncomputable def rboth13K : CallC := valC rboth13T rboth13Pre rboth13Res

theorem rboth13Val (c : List (List Int)) (v : List Int) (hp : rboth13Pre (c, (v, ()))) : Val Try.prog 60 (rboth13T.cells id (c, (v, ()))) (rboth13Res (c, (v, ()))) := by
  refine Val.ofF mixed (KL_ok (cc_cons rcwCc (cc_cons rcheckCc (cc_nil)))) (freesC rfl _) (rboth13Fn c v) ?_
  repeat (first
    | (refine ⟨Nat.le_refl _, ?_⟩)
    | (rw [ifp_pos (roomy_small (by simp only [Nat.add_eq]; omega) (by decide))])
    | (refine ⟨trivial, ?_⟩)
    | (refine ⟨(rfl : true = true), ?_⟩)
    | (refine ⟨idx_ok (by omega), ?_⟩)
    | (refine ⟨idx_ok0 (by omega), ?_⟩)
    | (refine ⟨_, nth_int (by omega), ?_⟩)
    | (refine ⟨_, _, _, _, _, _, nth_lst (by omega), ?_⟩)
    | (refine ⟨_, _, _, _, _, _, nth_lst0 (by omega), ?_⟩)
    | (refine ⟨_, Wk.refl _, ?_⟩)
    | (rw [ifp_pos rfl])
    | (refine ⟨(rfl : (_ : List Nat) = _), ?_⟩)
    | (refine ⟨(rfl : (_ : Code) = _), ?_⟩))
  rw [ifp_eq]
  split
  · rename_i h
    obtain ⟨h1, h2, h3, h4⟩ := checkV_inv h
    repeat (first
      | (refine ⟨Nat.le_refl _, ?_⟩)
      | (rw [ifp_pos (roomy_small (by simp only [Nat.add_eq]; omega) (by decide))])
      | (refine ⟨trivial, ?_⟩)
      | (refine ⟨(rfl : true = true), ?_⟩)
      | (refine ⟨idx_ok (by omega), ?_⟩)
      | (refine ⟨idx_ok0 (by omega), ?_⟩)
      | (refine ⟨_, nth_int (by omega), ?_⟩)
      | (refine ⟨_, _, _, _, _, _, nth_lst (by omega), ?_⟩)
      | (refine ⟨_, _, _, _, _, _, nth_lst0 (by omega), ?_⟩)
      | (refine ⟨_, Wk.refl _, ?_⟩)
      | (rw [ifp_pos rfl])
      | (refine ⟨(rfl : (_ : List Nat) = _), ?_⟩)
      | (refine ⟨(rfl : (_ : Code) = _), ?_⟩))
    rw [ifp_eq]
    split
    · rename_i h5
      repeat (first
        | (refine ⟨Nat.le_refl _, ?_⟩)
        | (rw [ifp_pos (roomy_small (by simp only [Nat.add_eq]; omega) (by decide))])
        | (refine ⟨trivial, ?_⟩)
        | (refine ⟨(rfl : true = true), ?_⟩)
        | (refine ⟨idx_ok (by omega), ?_⟩)
        | (refine ⟨idx_ok0 (by omega), ?_⟩)
        | (refine ⟨_, nth_int (by omega), ?_⟩)
        | (refine ⟨_, _, _, _, _, _, nth_lst (by omega), ?_⟩)
        | (refine ⟨_, _, _, _, _, _, nth_lst0 (by omega), ?_⟩)
        | (refine ⟨_, Wk.refl _, ?_⟩)
        | (rw [ifp_pos rfl])
        | (refine ⟨(rfl : (_ : List Nat) = _), ?_⟩)
        | (refine ⟨(rfl : (_ : Code) = _), ?_⟩))
      rw [ifp_ne]
      split
      · rename_i h6
        exact tells_int (by rw [bothV, if_neg (by simp [h]), if_neg (by simp [h5]), if_neg (by rw [← head_get h1]; simp at h6; omega)]; exact h5)
      · rename_i h6
        exact tells_int (by rw [bothV, if_neg (by simp [h]), if_neg (by simp [h5]), if_pos (by rw [← head_get h1]; simp at h6; omega)])
    · rename_i h5
      exact tells_int (by rw [bothV, if_neg (by simp [h]), if_pos h5])
  · rename_i h
    rw [ifp_eq, if_neg h]
    exact tells_int (by rw [bothV, if_pos h])
theorem rboth13Cc : CcOk Try.prog 60 rboth13K := val_ok rfl (fun ⟨c, ⟨v, _⟩⟩ h => rboth13Val c v h)

def farV (c : List (List Int)) (v : List Int) : List Near := if bothV c v = 0 then nearSort (farL c v c.length) else []
theorem near_snoc' {l : List Near} {a b : Int} : l.flatMap En.f ++ [AV.int .i64 a, AV.int .i64 b] = (l ++ [(a, b, ())]).flatMap En.f := near_snoc (x := (a, b, ()))

/-! The loop rfl of wayfinder/wayfinderref13.Far. -/
abbrev rflZ := ((List (List Int)) × (List Int) × (List Near) × Int × Unit) × (Unit × Unit)
noncomputable def rflSl : Tel ((List (List Int)) × (List Int) × (List Near) × Int × Unit) := .cons 0 (.lst Ell) (.cons 1 (.lst Ei32) (.cons 7 (.own En 0) (.cons 8 (.int .i64) (.nil))))
noncomputable def rflBl : BTel (Unit × Unit) := .cons (.spare) (.nil)
noncomputable def rflSl0 : Tel ((List (List Int)) × (List Int) × Unit × Int × Unit) := .cons 0 (.lst Ell) (.cons 1 (.lst Ei32) (.cons 7 (.nilS) (.cons 8 (.int .i64) (.nil))))
noncomputable def rflBl0 : BTel (Unit) := .nil
noncomputable def rflZ0 : ((List (List Int)) × (List Int) × Unit × Int × Unit) → (Unit) → rflZ := fun (c, (v, ((), (i, ())))) () => ((c, (v, ([], (i, ())))), ((), ()))
noncomputable def rflFs : List (LForm rflZ) := [⟨_, _, rflSl, rflBl, fun x y => (x, y)⟩, ⟨_, _, rflSl0, rflBl0, rflZ0⟩]
noncomputable def rflAlts (R0 : rflZ → ((List Near) × Unit) → (Unit × Unit) → Prop) (R1 : rflZ → (Unit × Unit) → (Unit) → Prop) : List (Alt rflZ) := [⟨.exit 0, (List Near) × Unit, Unit × Unit, .cons 7 (.own En 0) (.nil), .cons (.spare) (.nil), R0⟩, ⟨.exit 0, Unit × Unit, Unit, .cons 7 (.nilS) (.nil), .nil, R1⟩]

theorem rflForm (c : List (List Int)) (v : List Int) (out : List Near) (i : Int) (N : rflZ → Prop) (R0 : rflZ → ((List Near) × Unit) → (Unit × Unit) → Prop) (R1 : rflZ → (Unit × Unit) → (Unit) → Prop) : ((runW Try.prog (KL [(30, rdistK)] []) 100).code none 38 40 (loopBody Try.prog 38 6) (mkT (rflSl.av id (c, (v, (out, (i, ())))))) [] (stL true (rflBl.obs id ((), ()))) (postL 0 rflFs (rflAlts R0 R1) ((c, (v, (out, (i, ())))), ((), ())) N)) =
  ( ifp (!leInt (Int.ofNat c.length) i) (idxOk i c.length ∧ ∃ (l' : List AV), ∃ (n : Nat), ∃ (c_1 : Nat), ∃ (x : Bool), ∃ (w : Option Nat), ∃ (e : Nat), nth ((natOf
  i).mul (1 : Nat)) (List.flatMap Ell.f c) = some (AV.vs l' n c_1 x w e) ∧ ∃ (l : List Int), Wk (AV.vs l' n c_1 x w e) (lst Ei32 l) ∧ ∃ (l_1 : List Int), Wk
  (AV.vs (List.flatMap Ei32.f v) v.length v.length false none (1 : Nat)) (lst Ei32 l_1) ∧ rdistPre (l, l_1, ()) ∧ (2 : Nat) ≤ (2 : Nat) ∧ ifp (roomy
  (out.length.add (1 : Nat)) (16 : Nat)) (True ∧ ((∃ (l_2 : List (List Int)), Wk (AV.vs (List.flatMap Ell.f c) c.length c.length false none (1 : Nat)) (lst Ell
  l_2) ∧ ∃ (l_3 : List Int), Wk (AV.vs (List.flatMap Ei32.f v) v.length v.length false none (1 : Nat)) (lst Ei32 l_3) ∧ ∃ (l_4 : List Near), (WkL (List.flatMap
  En.f out ++ [AV.int IntKind.i64 (distD l l_1), AV.int IntKind.i64 i]) (List.flatMap En.f l_4) ∧ out.length.add (1 : Nat) = l_4.length ∧ (2 : Nat) = (2 : Nat))
  ∧ true = true ∧ N ((l_2, l_3, l_4, wrapF IntKind.i64 (i.add (1 : Int)), ()), (), ())) ∨ ∃ (l : List (List Int)), Wk (AV.vs (List.flatMap Ell.f c) c.length
  c.length false none (1 : Nat)) (lst Ell l) ∧ ∃ (l : List Int), Wk (AV.vs (List.flatMap Ei32.f v) v.length v.length false none (1 : Nat)) (lst Ei32 l) ∧ False))
  False) ((True ∧ ∃ (l : List Near), (WkL (List.flatMap En.f out) (List.flatMap En.f l) ∧ out.length = l.length ∧ (2 : Nat) = (2 : Nat)) ∧ true = true ∧ R0 ((c,
  v, out, i, ()), (), ()) (l, ()) ((), ())) ∨ True ∧ False)) := by kernel_rfl

theorem rflForm0 (c : List (List Int)) (v : List Int) (i : Int) (N : rflZ → Prop) (R0 : rflZ → ((List Near) × Unit) → (Unit × Unit) → Prop) (R1 : rflZ → (Unit × Unit) → (Unit) → Prop) : ((runW Try.prog (KL [(30, rdistK)] []) 100).code none 38 40 (loopBody Try.prog 38 6) (mkT (rflSl0.av id (c, (v, ((), (i, ())))))) [] (stL true (rflBl0.obs id ())) (postL 0 rflFs (rflAlts R0 R1) (rflZ0 (c, (v, ((), (i, ())))) ()) N)) =
  ( ifp (!leInt (Int.ofNat c.length) i) (idxOk i c.length ∧ ∃ (l' : List AV), ∃ (n : Nat), ∃ (c_1 : Nat), ∃ (x : Bool), ∃ (w : Option Nat), ∃ (e : Nat), nth ((natOf
  i).mul (1 : Nat)) (List.flatMap Ell.f c) = some (AV.vs l' n c_1 x w e) ∧ ∃ (l : List Int), Wk (AV.vs l' n c_1 x w e) (lst Ei32 l) ∧ ∃ (l_1 : List Int), Wk
  (AV.vs (List.flatMap Ei32.f v) v.length v.length false none (1 : Nat)) (lst Ei32 l_1) ∧ rdistPre (l, l_1, ()) ∧ (2 : Nat) ≤ (2 : Nat) ∧ True ∧ ((∃ (l_2 : List
  (List Int)), Wk (AV.vs (List.flatMap Ell.f c) c.length c.length false none (1 : Nat)) (lst Ell l_2) ∧ ∃ (l_3 : List Int), Wk (AV.vs (List.flatMap Ei32.f v)
  v.length v.length false none (1 : Nat)) (lst Ei32 l_3) ∧ ∃ (l_4 : List Near), (WkL [AV.int IntKind.i64 (distD l l_1), AV.int IntKind.i64 i] (List.flatMap En.f
  l_4) ∧ (1 : Nat) = l_4.length ∧ (2 : Nat) = (2 : Nat)) ∧ true = true ∧ N ((l_2, l_3, l_4, wrapF IntKind.i64 (i.add (1 : Int)), ()), (), ())) ∨ ∃ (l : List
  (List Int)), Wk (AV.vs (List.flatMap Ell.f c) c.length c.length false none (1 : Nat)) (lst Ell l) ∧ ∃ (l : List Int), Wk (AV.vs (List.flatMap Ei32.f v)
  v.length v.length false none (1 : Nat)) (lst Ei32 l) ∧ False)) (True ∧ False ∨ True ∧ true = true ∧ R1 ((c, v, [], i, ()), (), ()) ((), ()) ())) := by kernel_rfl

def rflInv : rflZ → Prop := fun ((c, (v, (out, (i, ())))), ((), ())) => ∃ k : Nat, i = k ∧ k ≤ c.length ∧ c.length ≤ 4096 ∧ out = farL c v k
def rflMu : rflZ → Nat := fun ((c, (v, (out, (i, ())))), ((), ())) => c.length - i.toNat
def rflR0 : rflZ → ((List Near) × Unit) → (Unit × Unit) → Prop := fun ((c, (v, (out, (i, ())))), ((), ())) (r, _) _ => r = farL c v c.length
def rflR1 : rflZ → (Unit × Unit) → (Unit) → Prop := fun ((c, (v, (out, (i, ())))), ((), ())) _ _ => c = []
noncomputable def rflC : LoopC := loopC 0 rflFs (rflAlts rflR0 rflR1) rflInv

theorem rflStep : stepsOk Try.prog (KL [(30, rdistK)] []) 100 38 40 (loopBody Try.prog 38 6) 0 true rflFs (rflAlts rflR0 rflR1) rflInv rflMu ⟨_, _, rflSl, rflBl, fun x y => (x, y)⟩ := by
  intro x y hz
  obtain ⟨c, v, out, i, _⟩ := x
  obtain ⟨_, _⟩ := y
  refine (rflForm c v out i _ _ _).mpr ?_
  obtain ⟨k, rfl, hk, hl, rfl⟩ := hz
  have hol := farL_len c v k
  rw [ifp_lt]
  simp only [natOf_nat]
  split
  · rename_i h
    have hkl : k < c.length := by simpa using h
    repeat (first
      | (refine ⟨Nat.le_refl _, ?_⟩)
      | (rw [ifp_pos (roomy_small (by simp only [Nat.add_eq]; omega) (by decide))])
      | (refine ⟨trivial, ?_⟩)
      | (refine ⟨(rfl : true = true), ?_⟩)
      | (refine ⟨idx_ok (by omega), ?_⟩)
      | (refine ⟨idx_ok0 (by omega), ?_⟩)
      | (refine ⟨_, nth_int (by omega), ?_⟩)
      | (refine ⟨_, _, _, _, _, _, nth_lst (by omega), ?_⟩)
      | (refine ⟨_, _, _, _, _, _, nth_lst0 (by omega), ?_⟩)
      | (refine ⟨_, Wk.refl _, ?_⟩)
      | (rw [ifp_pos rfl])
      | (refine ⟨(rfl : (_ : List Nat) = _), ?_⟩)
      | (refine ⟨(rfl : (_ : Code) = _), ?_⟩))
    refine Or.inl ⟨c, Wk.refl _, v, Wk.refl _, farL c v (k + 1), ⟨?_, ?_, (by first | exact trivial | exact rfl)⟩, (by first | exact trivial | exact rfl), ?_⟩
    · rw [farL_snoc hkl, ← near_snoc']; exact WkL.refl _
    · rw [farL_snoc hkl]; exact len_snoc
    · rw [wsucc (by omega)]
      exact ⟨⟨k + 1, rfl, hkl, hl, rfl⟩, by show c.length - (k + 1) < c.length - k; omega, fun _ _ h => h, fun _ _ h => h, trivial⟩
  · rename_i h
    obtain rfl : k = c.length := by simp at h; omega
    exact Or.inl ⟨trivial, _, ⟨WkL.refl _, (by first | exact trivial | exact rfl), (by first | exact trivial | exact rfl)⟩, (by first | exact trivial | exact rfl), rfl⟩
theorem rflStep0 : stepsOk Try.prog (KL [(30, rdistK)] []) 100 38 40 (loopBody Try.prog 38 6) 0 true rflFs (rflAlts rflR0 rflR1) rflInv rflMu ⟨_, _, rflSl0, rflBl0, rflZ0⟩ := by
  intro x y hz
  obtain ⟨c, v, _, i, _⟩ := x
  obtain _ := y
  refine (rflForm0 c v i _ _ _).mpr ?_
  obtain ⟨k, rfl, hk, hl, h0⟩ := hz
  obtain rfl : k = 0 := by have := congrArg List.length h0; rw [farL_len] at this; simp at this; omega
  rw [ifp_lt]
  simp only [natOf_nat]
  split
  · rename_i h
    have hkl : 0 < c.length := by simpa using h
    repeat (first
      | (refine ⟨Nat.le_refl _, ?_⟩)
      | (rw [ifp_pos (roomy_small (by simp only [Nat.add_eq]; omega) (by decide))])
      | (refine ⟨trivial, ?_⟩)
      | (refine ⟨(rfl : true = true), ?_⟩)
      | (refine ⟨idx_ok (by omega), ?_⟩)
      | (refine ⟨idx_ok0 (by omega), ?_⟩)
      | (refine ⟨_, nth_int (by omega), ?_⟩)
      | (refine ⟨_, _, _, _, _, _, nth_lst (by omega), ?_⟩)
      | (refine ⟨_, _, _, _, _, _, nth_lst0 (by omega), ?_⟩)
      | (refine ⟨_, Wk.refl _, ?_⟩)
      | (rw [ifp_pos rfl])
      | (refine ⟨(rfl : (_ : List Nat) = _), ?_⟩)
      | (refine ⟨(rfl : (_ : Code) = _), ?_⟩))
    refine Or.inl ⟨c, Wk.refl _, v, Wk.refl _, farL c v 1, ⟨?_, ?_, (by first | exact trivial | exact rfl)⟩, (by first | exact trivial | exact rfl), ?_⟩
    · rw [farL_snoc hkl, ← near_snoc']; exact WkL.refl _
    · rw [farL_len]
    · rw [wsucc (by omega)]
      exact ⟨⟨1, rfl, hkl, hl, rfl⟩, by show c.length - 1 < c.length - 0; omega, fun _ _ h => h, fun _ _ h => h, trivial⟩
  · rename_i h
    exact Or.inr ⟨trivial, (by first | exact trivial | exact rfl), List.length_eq_zero_iff.1 (by simp at h; simp [h])⟩
theorem rflOk : LoopOk Try.prog 38 40 (.loop (loopBody Try.prog 38 6)) rflC := loop_ok rflMu mixed (KL_ok (cc_cons rdistCc (cc_nil))) rfl (steps_cons rflStep (steps_cons rflStep0 (steps_nil)))

/-! The loop far of wayfinder/cell.distances$1. -/
abbrev farZ := (Unit × Unit × (List (List Int)) × Int × Int × Unit) × ((Unit × Unit) × Unit × ((List Near) × Unit) × ((List Int) × Unit) × Unit × Unit)
noncomputable def farSl : Tel (Unit × Unit × (List (List Int)) × Int × Int × Unit) := .cons 0 (.yld 0) (.cons 2 (.ptr 3) (.cons 8 (.lst Ell) (.cons 9 (.int .i64) (.cons 10 (.int .i64) (.nil)))))
noncomputable def farBl : BTel ((Unit × Unit) × Unit × ((List Near) × Unit) × ((List Int) × Unit) × Unit × Unit) := .cons (.loop 37 29 [19,20] (rangeAs Try.prog 37 8) (rangeBody Try.prog 37 8) .ready none (.cons 7 (.ptr 2) (.nil)) 1) (.cons (.dfr) (.cons (.row (.cons 0 (.own En 4) (.nil))) (.cons (.row (.cons 0 (.lst Ei32) (.nil))) (.cons (.spare) (.nil)))))
noncomputable def farSl0 : Tel (Unit × Unit × (List (List Int)) × Int × Int × Unit) := .cons 0 (.yld 0) (.cons 2 (.ptr 3) (.cons 8 (.lst Ell) (.cons 9 (.int .i64) (.cons 10 (.int .i64) (.nil)))))
noncomputable def farBl0 : BTel ((Unit × Unit) × Unit × (Unit × Unit) × ((List Int) × Unit) × Unit) := .cons (.loop 37 29 [19,20] (rangeAs Try.prog 37 8) (rangeBody Try.prog 37 8) .ready none (.cons 7 (.ptr 2) (.nil)) 1) (.cons (.dfr) (.cons (.row (.cons 0 (.nilS) (.nil))) (.cons (.row (.cons 0 (.lst Ei32) (.nil))) (.nil))))
noncomputable def farZ0 : (Unit × Unit × (List (List Int)) × Int × Int × Unit) → ((Unit × Unit) × Unit × (Unit × Unit) × ((List Int) × Unit) × Unit) → farZ := fun ((), ((), (c, (n, (i, ()))))) (((), ()), ((), (((), ()), ((v, ()), ())))) => (((), ((), (c, (n, (i, ()))))), (((), ()), ((), (([], ()), ((v, ()), ((), ()))))))
noncomputable def farFs : List (LForm farZ) := [⟨_, _, farSl, farBl, fun x y => (x, y)⟩, ⟨_, _, farSl0, farBl0, farZ0⟩]
noncomputable def farAlts (R0 : farZ → (Unit) → ((Unit × Unit) × Unit × ((List Near) × Unit) × ((List Int) × Unit) × Unit × Unit) → Prop) (R1 : farZ → (Unit) → ((Unit × Unit) × Unit × (Unit × Unit) × ((List Int) × Unit) × Unit) → Prop) : List (Alt farZ) := [⟨.exit 0, Unit, (Unit × Unit) × Unit × ((List Near) × Unit) × ((List Int) × Unit) × Unit × Unit, .nil, .cons (.loop 37 29 [19,20] (rangeAs Try.prog 37 8) (rangeBody Try.prog 37 8) .ready none (.cons 7 (.ptr 2) (.nil)) 1) (.cons (.dfr) (.cons (.row (.cons 0 (.own En 4) (.nil))) (.cons (.row (.cons 0 (.lst Ei32) (.nil))) (.cons (.spare) (.nil))))), R0⟩, ⟨.exit 0, Unit, (Unit × Unit) × Unit × (Unit × Unit) × ((List Int) × Unit) × Unit, .nil, .cons (.loop 37 29 [19,20] (rangeAs Try.prog 37 8) (rangeBody Try.prog 37 8) .ready none (.cons 7 (.ptr 2) (.nil)) 1) (.cons (.dfr) (.cons (.row (.cons 0 (.nilS) (.nil))) (.cons (.row (.cons 0 (.lst Ei32) (.nil))) (.nil)))), R1⟩]

theorem farForm (c : List (List Int)) (n : Int) (i : Int) (out : List Near) (v : List Int) (N : farZ → Prop) (R0 : farZ → (Unit) → ((Unit × Unit) × Unit × ((List Near) × Unit) × ((List Int) × Unit) × Unit × Unit) → Prop) (R1 : farZ → (Unit) → ((Unit × Unit) × Unit × (Unit × Unit) × ((List Int) × Unit) × Unit) → Prop) : ((runW Try.prog (KL [(84, distK)] []) 100).code none 83 27 (loopBody Try.prog 83 1) (mkT (farSl.av id ((), ((), (c, (n, (i, ()))))))) [] (stL true (farBl.obs id (((), ()), ((), ((out, ()), ((v, ()), ((), ()))))))) (postL 4 farFs (farAlts R0 R1) (((), ((), (c, (n, (i, ()))))), (((), ()), ((), ((out, ()), ((v, ()), ((), ())))))) N)) =
  ( ifp (!leInt n i) (idxOk i c.length ∧ ∃ (l' : List AV), ∃ (n_1 : Nat), ∃ (c_1 : Nat), ∃ (x : Bool), ∃ (w : Option Nat), ∃ (e : Nat), nth ((natOf i).mul (1 :
  Nat)) (List.flatMap Ell.f c) = some (AV.vs l' n_1 c_1 x w e) ∧ ∃ (l : List Int), Wk (AV.vs l' n_1 c_1 x w e) (lst Ei32 l) ∧ ∃ (l_1 : List Int), Wk (AV.vs
  (List.flatMap Ei32.f v) v.length v.length false none (1 : Nat)) (lst Ei32 l_1) ∧ distPre (l, l_1, ()) ∧ (2 : Nat) ≤ (2 : Nat) ∧ ifp (roomy (out.length.add (1 :
  Nat)) (16 : Nat)) (True ∧ ((∃ (l_2 : List (List Int)), Wk (AV.vs (List.flatMap Ell.f c) c.length c.length false none (1 : Nat)) (lst Ell l_2) ∧ True ∧ [(19 :
  Nat), (20 : Nat)] = [(19 : Nat), (20 : Nat)] ∧ rangeAs Try.prog (37 : FuncId) (8 : Nat) = rangeAs Try.prog (37 : FuncId) (8 : Nat) ∧ rangeBody Try.prog (37 :
  FuncId) (8 : Nat) = rangeBody Try.prog (37 : FuncId) (8 : Nat) ∧ ∃ (l_3 : List Near), (WkL (List.flatMap En.f out ++ [AV.int IntKind.i64 (distD l l_1), AV.int
  IntKind.i64 i]) (List.flatMap En.f l_3) ∧ out.length.add (1 : Nat) = l_3.length ∧ (2 : Nat) = (2 : Nat)) ∧ ∃ (l : List Int), Wk (AV.vs (List.flatMap Ei32.f v)
  v.length v.length false none (1 : Nat)) (lst Ei32 l) ∧ true = true ∧ N (((), (), l_2, n, wrapF IntKind.i64 (i.add (1 : Int)), ()), ((), ()), (), (l_3, ()), (l,
  ()), (), ())) ∨ ∃ (l : List (List Int)), Wk (AV.vs (List.flatMap Ell.f c) c.length c.length false none (1 : Nat)) (lst Ell l) ∧ True ∧ [(19 : Nat), (20 : Nat)]
  = [(19 : Nat), (20 : Nat)] ∧ rangeAs Try.prog (37 : FuncId) (8 : Nat) = rangeAs Try.prog (37 : FuncId) (8 : Nat) ∧ rangeBody Try.prog (37 : FuncId) (8 : Nat) =
  rangeBody Try.prog (37 : FuncId) (8 : Nat) ∧ False)) False) ((True ∧ True ∧ [(19 : Nat), (20 : Nat)] = [(19 : Nat), (20 : Nat)] ∧ rangeAs Try.prog (37 :
  FuncId) (8 : Nat) = rangeAs Try.prog (37 : FuncId) (8 : Nat) ∧ rangeBody Try.prog (37 : FuncId) (8 : Nat) = rangeBody Try.prog (37 : FuncId) (8 : Nat) ∧ ∃ (l :
  List Near), (WkL (List.flatMap En.f out) (List.flatMap En.f l) ∧ out.length = l.length ∧ (2 : Nat) = (2 : Nat)) ∧ ∃ (l_1 : List Int), Wk (AV.vs (List.flatMap
  Ei32.f v) v.length v.length false none (1 : Nat)) (lst Ei32 l_1) ∧ true = true ∧ R0 (((), (), c, n, i, ()), ((), ()), (), (out, ()), (v, ()), (), ()) () (((),
  ()), (), (l, ()), (l_1, ()), (), ())) ∨ True ∧ True ∧ [(19 : Nat), (20 : Nat)] = [(19 : Nat), (20 : Nat)] ∧ rangeAs Try.prog (37 : FuncId) (8 : Nat) = rangeAs
  Try.prog (37 : FuncId) (8 : Nat) ∧ rangeBody Try.prog (37 : FuncId) (8 : Nat) = rangeBody Try.prog (37 : FuncId) (8 : Nat) ∧ False)) := by kernel_rfl

theorem farForm0 (c : List (List Int)) (n : Int) (i : Int) (v : List Int) (N : farZ → Prop) (R0 : farZ → (Unit) → ((Unit × Unit) × Unit × ((List Near) × Unit) × ((List Int) × Unit) × Unit × Unit) → Prop) (R1 : farZ → (Unit) → ((Unit × Unit) × Unit × (Unit × Unit) × ((List Int) × Unit) × Unit) → Prop) : ((runW Try.prog (KL [(84, distK)] []) 100).code none 83 27 (loopBody Try.prog 83 1) (mkT (farSl0.av id ((), ((), (c, (n, (i, ()))))))) [] (stL true (farBl0.obs id (((), ()), ((), (((), ()), ((v, ()), ())))))) (postL 4 farFs (farAlts R0 R1) (farZ0 ((), ((), (c, (n, (i, ()))))) (((), ()), ((), (((), ()), ((v, ()), ()))))) N)) =
  ( ifp (!leInt n i) (idxOk i c.length ∧ ∃ (l' : List AV), ∃ (n_1 : Nat), ∃ (c_1 : Nat), ∃ (x : Bool), ∃ (w : Option Nat), ∃ (e : Nat), nth ((natOf i).mul (1 :
  Nat)) (List.flatMap Ell.f c) = some (AV.vs l' n_1 c_1 x w e) ∧ ∃ (l : List Int), Wk (AV.vs l' n_1 c_1 x w e) (lst Ei32 l) ∧ ∃ (l_1 : List Int), Wk (AV.vs
  (List.flatMap Ei32.f v) v.length v.length false none (1 : Nat)) (lst Ei32 l_1) ∧ distPre (l, l_1, ()) ∧ (2 : Nat) ≤ (2 : Nat) ∧ True ∧ ((∃ (l_2 : List (List
  Int)), Wk (AV.vs (List.flatMap Ell.f c) c.length c.length false none (1 : Nat)) (lst Ell l_2) ∧ True ∧ [(19 : Nat), (20 : Nat)] = [(19 : Nat), (20 : Nat)] ∧
  rangeAs Try.prog (37 : FuncId) (8 : Nat) = rangeAs Try.prog (37 : FuncId) (8 : Nat) ∧ rangeBody Try.prog (37 : FuncId) (8 : Nat) = rangeBody Try.prog (37 :
  FuncId) (8 : Nat) ∧ ∃ (l_3 : List Near), (WkL [AV.int IntKind.i64 (distD l l_1), AV.int IntKind.i64 i] (List.flatMap En.f l_3) ∧ (1 : Nat) = l_3.length ∧ (2 :
  Nat) = (2 : Nat)) ∧ ∃ (l : List Int), Wk (AV.vs (List.flatMap Ei32.f v) v.length v.length false none (1 : Nat)) (lst Ei32 l) ∧ true = true ∧ N (((), (), l_2,
  n, wrapF IntKind.i64 (i.add (1 : Int)), ()), ((), ()), (), (l_3, ()), (l, ()), (), ())) ∨ ∃ (l : List (List Int)), Wk (AV.vs (List.flatMap Ell.f c) c.length
  c.length false none (1 : Nat)) (lst Ell l) ∧ True ∧ [(19 : Nat), (20 : Nat)] = [(19 : Nat), (20 : Nat)] ∧ rangeAs Try.prog (37 : FuncId) (8 : Nat) = rangeAs
  Try.prog (37 : FuncId) (8 : Nat) ∧ rangeBody Try.prog (37 : FuncId) (8 : Nat) = rangeBody Try.prog (37 : FuncId) (8 : Nat) ∧ False)) (True ∧ True ∧ [(19 :
  Nat), (20 : Nat)] = [(19 : Nat), (20 : Nat)] ∧ rangeAs Try.prog (37 : FuncId) (8 : Nat) = rangeAs Try.prog (37 : FuncId) (8 : Nat) ∧ rangeBody Try.prog (37 :
  FuncId) (8 : Nat) = rangeBody Try.prog (37 : FuncId) (8 : Nat) ∧ False ∨ True ∧ True ∧ [(19 : Nat), (20 : Nat)] = [(19 : Nat), (20 : Nat)] ∧ rangeAs Try.prog
  (37 : FuncId) (8 : Nat) = rangeAs Try.prog (37 : FuncId) (8 : Nat) ∧ rangeBody Try.prog (37 : FuncId) (8 : Nat) = rangeBody Try.prog (37 : FuncId) (8 : Nat) ∧
  ∃ (l : List Int), Wk (AV.vs (List.flatMap Ei32.f v) v.length v.length false none (1 : Nat)) (lst Ei32 l) ∧ true = true ∧ R1 (((), (), c, n, i, ()), ((), ()),
  (), ([], ()), (v, ()), (), ()) () (((), ()), (), ((), ()), (l, ()), ()))) := by kernel_rfl

def farInv : farZ → Prop := fun (((), ((), (c, (n, (i, ()))))), (((), ()), ((), ((out, ()), ((v, ()), ((), ())))))) => ∃ k : Nat, i = k ∧ n = c.length ∧ k ≤ c.length ∧ c.length ≤ 4096 ∧ out = farL c v k
def farMu : farZ → Nat := fun (((), ((), (c, (n, (i, ()))))), (((), ()), ((), ((out, ()), ((v, ()), ((), ())))))) => c.length - i.toNat
def farR0 : farZ → (Unit) → ((Unit × Unit) × Unit × ((List Near) × Unit) × ((List Int) × Unit) × Unit × Unit) → Prop := fun (((), ((), (c, (n, (i, ()))))), (((), ()), ((), ((out, ()), ((v, ()), ((), ())))))) _ (_, _, (r, _), _) => r = farL c v c.length
def farR1 : farZ → (Unit) → ((Unit × Unit) × Unit × (Unit × Unit) × ((List Int) × Unit) × Unit) → Prop := fun (((), ((), (c, (n, (i, ()))))), (((), ()), ((), ((out, ()), ((v, ()), ((), ())))))) _ _ => c = []
noncomputable def farC : LoopC := loopC 4 farFs (farAlts farR0 farR1) farInv

theorem farStep : stepsOk Try.prog (KL [(84, distK)] []) 100 83 27 (loopBody Try.prog 83 1) 4 true farFs (farAlts farR0 farR1) farInv farMu ⟨_, _, farSl, farBl, fun x y => (x, y)⟩ := by
  intro x y hz
  obtain ⟨_, _, c, n, i, _⟩ := x
  obtain ⟨⟨_, _⟩, _, ⟨out, _⟩, ⟨v, _⟩, _, _⟩ := y
  refine (farForm c n i out v _ _ _).mpr ?_
  obtain ⟨k, rfl, rfl, hk, hl, rfl⟩ := hz
  have hol := farL_len c v k
  rw [ifp_lt]
  simp only [natOf_nat]
  split
  · rename_i h
    have hkl : k < c.length := by simpa using h
    repeat (first
      | (refine ⟨Nat.le_refl _, ?_⟩)
      | (rw [ifp_pos (roomy_small (by simp only [Nat.add_eq]; omega) (by decide))])
      | (refine ⟨trivial, ?_⟩)
      | (refine ⟨(rfl : true = true), ?_⟩)
      | (refine ⟨idx_ok (by omega), ?_⟩)
      | (refine ⟨idx_ok0 (by omega), ?_⟩)
      | (refine ⟨_, nth_int (by omega), ?_⟩)
      | (refine ⟨_, _, _, _, _, _, nth_lst (by omega), ?_⟩)
      | (refine ⟨_, _, _, _, _, _, nth_lst0 (by omega), ?_⟩)
      | (refine ⟨_, Wk.refl _, ?_⟩)
      | (rw [ifp_pos rfl])
      | (refine ⟨(rfl : (_ : List Nat) = _), ?_⟩)
      | (refine ⟨(rfl : (_ : Code) = _), ?_⟩))
    refine Or.inl ⟨c, Wk.refl _, trivial, (by first | exact trivial | exact rfl), (by first | exact trivial | exact rfl), (by first | exact trivial | exact rfl), farL c v (k + 1), ⟨?_, ?_, (by first | exact trivial | exact rfl)⟩, v, Wk.refl _, (by first | exact trivial | exact rfl), ?_⟩
    · rw [farL_snoc hkl, ← near_snoc']; exact WkL.refl _
    · rw [farL_snoc hkl]; exact len_snoc
    · rw [wsucc (by omega)]
      exact ⟨⟨k + 1, rfl, rfl, hkl, hl, rfl⟩, by show c.length - (k + 1) < c.length - k; omega, fun _ _ h => h, fun _ _ h => h, trivial⟩
  · rename_i h
    obtain rfl : k = c.length := by simp at h; omega
    exact Or.inl ⟨trivial, trivial, (by first | exact trivial | exact rfl), (by first | exact trivial | exact rfl), (by first | exact trivial | exact rfl), _, ⟨WkL.refl _, (by first | exact trivial | exact rfl), (by first | exact trivial | exact rfl)⟩, v, Wk.refl _, (by first | exact trivial | exact rfl), rfl⟩
theorem farStep0 : stepsOk Try.prog (KL [(84, distK)] []) 100 83 27 (loopBody Try.prog 83 1) 4 true farFs (farAlts farR0 farR1) farInv farMu ⟨_, _, farSl0, farBl0, farZ0⟩ := by
  intro x y hz
  obtain ⟨_, _, c, n, i, _⟩ := x
  obtain ⟨⟨_, _⟩, _, ⟨_, _⟩, ⟨v, _⟩, _⟩ := y
  refine (farForm0 c n i v _ _ _).mpr ?_
  obtain ⟨k, rfl, rfl, hk, hl, h0⟩ := hz
  obtain rfl : k = 0 := by have := congrArg List.length h0; rw [farL_len] at this; simp at this; omega
  rw [ifp_lt]
  simp only [natOf_nat]
  split
  · rename_i h
    have hkl : 0 < c.length := by simpa using h
    repeat (first
      | (refine ⟨Nat.le_refl _, ?_⟩)
      | (rw [ifp_pos (roomy_small (by simp only [Nat.add_eq]; omega) (by decide))])
      | (refine ⟨trivial, ?_⟩)
      | (refine ⟨(rfl : true = true), ?_⟩)
      | (refine ⟨idx_ok (by omega), ?_⟩)
      | (refine ⟨idx_ok0 (by omega), ?_⟩)
      | (refine ⟨_, nth_int (by omega), ?_⟩)
      | (refine ⟨_, _, _, _, _, _, nth_lst (by omega), ?_⟩)
      | (refine ⟨_, _, _, _, _, _, nth_lst0 (by omega), ?_⟩)
      | (refine ⟨_, Wk.refl _, ?_⟩)
      | (rw [ifp_pos rfl])
      | (refine ⟨(rfl : (_ : List Nat) = _), ?_⟩)
      | (refine ⟨(rfl : (_ : Code) = _), ?_⟩))
    refine Or.inl ⟨c, Wk.refl _, trivial, (by first | exact trivial | exact rfl), (by first | exact trivial | exact rfl), (by first | exact trivial | exact rfl), farL c v 1, ⟨?_, ?_, (by first | exact trivial | exact rfl)⟩, v, Wk.refl _, (by first | exact trivial | exact rfl), ?_⟩
    · rw [farL_snoc hkl, ← near_snoc']; exact WkL.refl _
    · rw [farL_len]
    · rw [wsucc (by omega)]
      exact ⟨⟨1, rfl, rfl, hkl, hl, rfl⟩, by show c.length - 1 < c.length - 0; omega, fun _ _ h => h, fun _ _ h => h, trivial⟩
  · rename_i h
    exact Or.inr ⟨trivial, trivial, (by first | exact trivial | exact rfl), (by first | exact trivial | exact rfl), (by first | exact trivial | exact rfl), v, Wk.refl _, (by first | exact trivial | exact rfl), List.length_eq_zero_iff.1 (by simp at h; simp [h])⟩
theorem farOk : LoopOk Try.prog 83 27 (.loop (loopBody Try.prog 83 1)) farC := loop_ok farMu mixed (KL_ok (cc_cons distCc (cc_nil))) rfl (steps_cons farStep (steps_cons farStep0 (steps_nil)))

/-! wayfinder/wayfinderref13.Far -/
noncomputable def rfarT : Tel ((List (List Int)) × (List Int) × Unit) := .cons 0 (.lst Ell) (.cons 1 (.lst Ei32) (.nil))

theorem rfarFn (c : List (List Int)) (v : List Int) (Q : AV → Prop) : (callW Try.prog (runW Try.prog (KL [(60, rboth13K), (22, rsortedK)] [(38, [(6, rflC)])]) 200) 38 (rfarT.cells id (c, (v, ()))) (stE true) (fun x st => frzW st x Q)) =
  ( ∃ (l : List (List Int)), Wk (AV.vs (List.flatMap Ell.f c) c.length c.length false none (1 : Nat)) (lst Ell l) ∧ ∃ (l_1 : List Int), Wk (AV.vs (List.flatMap
  Ei32.f v) v.length v.length false none (1 : Nat)) (lst Ei32 l_1) ∧ rboth13Pre (l, l_1, ()) ∧ ifp (!eqInt (bothV l l_1) (0 : Int)) (Q (AV.tuple [AV.nilSlice,
  AV.int IntKind.i64 (bothV l l_1)])) (LoopOk Try.prog (38 : FuncId) (40 : Nat) (loopBody Try.prog (38 : FuncId) (6 : Nat)).loop rflC ∧ True ∧ True ∧ ((∃ (l :
  List (List Int)), Wk (AV.vs (List.flatMap Ell.f c) c.length c.length false none (1 : Nat)) (lst Ell l) ∧ ∃ (l : List Int), Wk (AV.vs (List.flatMap Ei32.f v)
  v.length v.length false none (1 : Nat)) (lst Ei32 l) ∧ False) ∨ ∃ (l : List (List Int)), Wk (AV.vs (List.flatMap Ell.f c) c.length c.length false none (1 :
  Nat)) (lst Ell l) ∧ ∃ (l_2 : List Int), Wk (AV.vs (List.flatMap Ei32.f v) v.length v.length false none (1 : Nat)) (lst Ei32 l_2) ∧ true = true ∧ rflInv ((l,
  l_2, [], (0 : Int), ()), (), ()) ∧ (∀ (c : List Near × Unit) (d : Unit × Unit), rflR0 ((l, l_2, [], (0 : Int), ()), (), ()) c d → ∃ (l : List Near), Wk (AV.vs
  (List.flatMap En.f c.1) c.1.length c.1.length false (some (0 : Nat)) (2 : Nat)) (lst En l) ∧ rsortedPre (l, ()) ∧ Q (AV.tuple [AV.vs (List.flatMap En.f (insAll
  l)) (insAll l).length (insAll l).length false none (2 : Nat), AV.int IntKind.i64 (0 : Int)])) ∧ (∀ (c : Unit × Unit) (d : Unit), rflR1 ((l, l_2, [], (0 : Int),
  ()), (), ()) c d → ∃ (l : List Near), Wk AV.nilSlice (lst En l) ∧ rsortedPre (l, ()) ∧ Q (AV.tuple [AV.vs (List.flatMap En.f (insAll l)) (insAll l).length
  (insAll l).length false none (2 : Nat), AV.int IntKind.i64 (0 : Int)])) ∧ True))) := by kernel_rfl

def rfarPre : (List (List Int)) × (List Int) × Unit → Prop := fun (c, (v, ())) => True
noncomputable def rfarRes : (List (List Int)) × (List Int) × Unit → AV := fun (c, (v, ())) => .tuple [lst En (farV c v), .int .i64 (bothV c v)]
noncomputable def rfarK : CallC := valC rfarT rfarPre rfarRes

theorem rfarVal (c : List (List Int)) (v : List Int) (hp : rfarPre (c, (v, ()))) : Val Try.prog 38 (rfarT.cells id (c, (v, ()))) (rfarRes (c, (v, ()))) := by
  refine Val.ofF mixed (KL_ok (cc_cons rboth13Cc (cc_cons rsortedCc (cc_nil)))) (freesC rfl _) (rfarFn c v) ?_
  refine ⟨c, Wk.refl _, v, Wk.refl _, trivial, ?_⟩
  rw [ifp_ne]
  split
  · rename_i h
    obtain ⟨h1, h2, h3⟩ := bothV_inv h
    obtain ⟨h4, h5, _⟩ := checkV_inv h1
    refine ⟨rflOk, trivial, trivial, Or.inr ⟨c, Wk.refl _, v, Wk.refl _, (by first | exact trivial | exact rfl), ⟨0, rfl, Nat.zero_le _, h5, rfl⟩, fun d d2 hr => ?_, fun _ _ hr => ?_, trivial⟩⟩
    · obtain ⟨r, _⟩ := d
      obtain rfl : r = farL c v c.length := hr
      have e : farV c v = insAll (farL c v c.length) := by rw [farV, if_pos h]; exact sort_ins _
      refine ⟨_, wk_of_own, by show (farL c v c.length).length ≤ _; rw [farL_len]; omega, ?_⟩
      exact tells_tuple ⟨tells_lst ⟨by rw [e], by rw [e], rfl⟩, tells_int h.symm, trivial⟩
    · have hr' : c = [] := hr
      rw [hr'] at h4; simp at h4
  · rename_i h
    refine tells_tuple ⟨?_, tells_int rfl, trivial⟩
    show Tells .nilSlice (lst En (farV c v))
    rw [farV, if_neg h]; exact tells_nil _
theorem rfarCc : CcOk Try.prog 38 rfarK := val_ok rfl (fun ⟨c, ⟨v, _⟩⟩ h => rfarVal c v h)

/-! wayfinder/cell.Far -/
noncomputable def farT : Tel ((List (List Int)) × (List Int) × Unit) := .cons 0 (.lst Ell) (.cons 1 (.lst Ei32) (.nil))

theorem farFn (c : List (List Int)) (v : List Int) (Q : AV → Prop) : (callW Try.prog (runW Try.prog (KL [(57, bothK), (18, sortedK), (84, distK)] [(83, [(1, farC)])]) 200) 37 (farT.cells id (c, (v, ()))) (stE true) (fun x st => frzW st x Q)) =
  ( ∃ (l : List (List Int)), Wk (AV.vs (List.flatMap Ell.f c) c.length c.length false none (1 : Nat)) (lst Ell l) ∧ ∃ (l_1 : List Int), Wk (AV.vs (List.flatMap
  Ei32.f v) v.length v.length false none (1 : Nat)) (lst Ei32 l_1) ∧ bothPre (l, l_1, ()) ∧ ifp (!eqInt (bothV l l_1) (0 : Int)) (Q (AV.tuple [AV.nilSlice,
  AV.int IntKind.i64 (bothV l l_1)])) (LoopOk Try.prog (83 : Nat) (27 : Nat) (loopBody Try.prog (83 : Nat) (1 : Nat)).loop farC ∧ True ∧ True ∧ ((∃ (l : List
  (List Int)), Wk (AV.vs (List.flatMap Ell.f c) c.length c.length false none (1 : Nat)) (lst Ell l) ∧ True ∧ [(19 : Nat), (20 : Nat)] = [(19 : Nat), (20 : Nat)]
  ∧ rangeAs Try.prog (37 : FuncId) (8 : Nat) = rangeAs Try.prog (37 : FuncId) (8 : Nat) ∧ rangeBody Try.prog (37 : FuncId) (8 : Nat) = rangeBody Try.prog (37 :
  FuncId) (8 : Nat) ∧ False) ∨ ∃ (l : List (List Int)), Wk (AV.vs (List.flatMap Ell.f c) c.length c.length false none (1 : Nat)) (lst Ell l) ∧ True ∧ [(19 :
  Nat), (20 : Nat)] = [(19 : Nat), (20 : Nat)] ∧ rangeAs Try.prog (37 : FuncId) (8 : Nat) = rangeAs Try.prog (37 : FuncId) (8 : Nat) ∧ rangeBody Try.prog (37 :
  FuncId) (8 : Nat) = rangeBody Try.prog (37 : FuncId) (8 : Nat) ∧ ∃ (l_2 : List Int), Wk (AV.vs (List.flatMap Ei32.f v) v.length v.length false none (1 : Nat))
  (lst Ei32 l_2) ∧ true = true ∧ farInv (((), (), l, Int.ofNat c.length, (0 : Int), ()), ((), ()), (), ([], ()), (l_2, ()), (), ()) ∧ (∀ (c_1 : Unit) (d : (Unit
  × Unit) × Unit × (List Near × Unit) × (List Int × Unit) × Unit × Unit), farR0 (((), (), l, Int.ofNat c.length, (0 : Int), ()), ((), ()), (), ([], ()), (l_2,
  ()), (), ()) c_1 d → ∃ (l : List Near), Wk (AV.vs (List.flatMap En.f d.2.2.1.1) d.2.2.1.1.length d.2.2.1.1.length false (some (5 : Nat)) (2 : Nat)) (lst En l)
  ∧ sortedPre (l, ()) ∧ Q (AV.tuple [AV.vs (List.flatMap En.f (nearSort l)) (nearSort l).length (nearSort l).length false none (2 : Nat), AV.int IntKind.i64 (0 :
  Int)])) ∧ (∀ (c_1 : Unit) (d : (Unit × Unit) × Unit × (Unit × Unit) × (List Int × Unit) × Unit), farR1 (((), (), l, Int.ofNat c.length, (0 : Int), ()), ((),
  ()), (), ([], ()), (l_2, ()), (), ()) c_1 d → ∃ (l : List Near), Wk AV.nilSlice (lst En l) ∧ sortedPre (l, ()) ∧ Q (AV.tuple [AV.vs (List.flatMap En.f
  (nearSort l)) (nearSort l).length (nearSort l).length false none (2 : Nat), AV.int IntKind.i64 (0 : Int)])) ∧ True))) := by kernel_rfl

def farPre : (List (List Int)) × (List Int) × Unit → Prop := fun (c, (v, ())) => True
noncomputable def farRes : (List (List Int)) × (List Int) × Unit → AV := fun (c, (v, ())) => .tuple [lst En (farV c v), .int .i64 (bothV c v)]
noncomputable def farK : CallC := valC farT farPre farRes

theorem farVal (c : List (List Int)) (v : List Int) (hp : farPre (c, (v, ()))) : Val Try.prog 37 (farT.cells id (c, (v, ()))) (farRes (c, (v, ()))) := by
  refine Val.ofF mixed (KL_ok (cc_cons bothCc (cc_cons sortedCc (cc_cons distCc (cc_nil))))) (freesC rfl _) (farFn c v) ?_
  refine ⟨c, Wk.refl _, v, Wk.refl _, trivial, ?_⟩
  rw [ifp_ne]
  split
  · rename_i h
    obtain ⟨h1, h2, h3⟩ := bothV_inv h
    obtain ⟨h4, h5, _⟩ := checkV_inv h1
    refine ⟨farOk, trivial, trivial, Or.inr ⟨c, Wk.refl _, trivial, (by first | exact trivial | exact rfl), (by first | exact trivial | exact rfl), (by first | exact trivial | exact rfl), v, Wk.refl _, (by first | exact trivial | exact rfl), ⟨0, rfl, rfl, Nat.zero_le _, h5, rfl⟩, fun d d2 hr => ?_, fun _ _ hr => ?_, trivial⟩⟩
    · obtain ⟨_, _, ⟨r, _⟩, _⟩ := d2
      obtain rfl : r = farL c v c.length := hr
      have e : farV c v = nearSort (farL c v c.length) := by rw [farV, if_pos h]
      refine ⟨_, wk_of_own, by show (farL c v c.length).length ≤ _; rw [farL_len]; omega, ?_⟩
      exact tells_tuple ⟨tells_lst ⟨by rw [e], by rw [e], rfl⟩, tells_int h.symm, trivial⟩
    · have hr' : c = [] := hr
      rw [hr'] at h4; simp at h4
  · rename_i h
    refine tells_tuple ⟨?_, tells_int rfl, trivial⟩
    show Tells .nilSlice (lst En (farV c v))
    rw [farV, if_neg h]; exact tells_nil _
theorem farCc : CcOk Try.prog 37 farK := val_ok rfl (fun ⟨c, ⟨v, _⟩⟩ h => farVal c v h)


def ordL (c : List (List Int)) (v : List Int) (n : Int) : List Int := ((farV c v).take n.toNat).map fun x => x.2.1
def ordE (c : List (List Int)) (v : List Int) (n : Int) : Int := if bothV c v ≠ 0 then bothV c v else if n < 0 then 2 else 0
theorem map_take_succ {l : List Near} {k : Nat} (h : k < l.length) : (l.take (k + 1)).map (fun x => x.2.1) = (l.take k).map (fun x => x.2.1) ++ [l[k].2.1] := by
  rw [← List.take_append_getElem h, List.map_append]; rfl
theorem ifb_min {n : Int} {m : Nat} (h : 0 ≤ n) : ifb (leInt n (Int.ofNat m)) n (Int.ofNat m) = ((min n.toNat m : Nat) : Int) := by
  rw [ifb_eq, leInt_eq]
  by_cases c : n ≤ Int.ofNat m
  · rw [if_pos (by simpa using c)]; simp only [Int.ofNat_eq_natCast] at c; omega
  · rw [if_neg (by simpa using c)]; simp only [Int.ofNat_eq_natCast] at *; omega
theorem wk_near_take {l : List Near} {j c : Nat} {x : Bool} (h : j ≤ l.length) : Wk (.vs (List.take ((j - 0) * 2) (List.drop 0 (l.flatMap En.f))) (j - 0) c x none 2) (lst En (l.take j)) :=
  wk_vs ⟨by rw [List.drop_zero, Nat.sub_zero]; exact near_take _ j, by rw [List.length_take]; omega, rfl⟩
theorem near_spec (v : List Int) : ∀ (c : List (List Int)), c ≠ [] → ∃ p, ∃ h : p < c.length, nearGo v c 0 (0, -1) = ((p : Int), sqs c[p] v) ∧ ∀ q (hq : q < c.length), sqs c[p] v < sqs c[q] v ∨ sqs c[p] v = sqs c[q] v ∧ p ≤ q := by
  intro c
  induction c using Go.Det.Stab.snocRec with
  | nil => intro h; exact absurd rfl h
  | snoc b x ih =>
    intro _
    rw [nearGo_append]
    by_cases hb : b = []
    · subst hb
      rw [if_pos (Or.inl (by simp [nearGo]))]
      refine ⟨0, by simp, by simp, fun q hq => Or.inr ?_⟩
      have hq0 : q = 0 := by simpa using hq
      subst hq0
      exact ⟨rfl, Nat.le_refl _⟩
    · obtain ⟨p, hp, e, h⟩ := ih hb
      rw [e]
      have hn := sqs_nonneg b[p] v
      by_cases c1 : sqs x v < sqs b[p] v
      · rw [if_pos (Or.inr c1)]
        refine ⟨b.length, by simp, by simp, fun q hq => ?_⟩
        rw [List.getElem_append_right (Nat.le_refl _)]
        simp only [Nat.sub_self, List.getElem_cons_zero]
        rcases Nat.lt_or_ge q b.length with hq1 | hq1
        · rw [List.getElem_append_left hq1]
          have := h q hq1
          exact Or.inl (by omega)
        · have : q = b.length := by simp at hq; omega
          subst this
          rw [List.getElem_append_right (Nat.le_refl _)]
          simp
      · rw [if_neg (by show ¬ (sqs b[p] v < 0 ∨ sqs x v < sqs b[p] v); omega)]
        refine ⟨p, by simp; omega, by rw [List.getElem_append_left hp], fun q hq => ?_⟩
        rw [List.getElem_append_left hp]
        rcases Nat.lt_or_ge q b.length with hq1 | hq1
        · rw [List.getElem_append_left hq1]; exact h q hq1
        · have : q = b.length := by simp at hq; omega
          subst this
          rw [List.getElem_append_right (Nat.le_refl _)]
          simp only [Nat.sub_self, List.getElem_cons_zero]
          omega
theorem farL_mem {c : List (List Int)} {v : List Int} {x : Near} (h : x ∈ farL c v c.length) : ∃ q, ∃ hq : q < c.length, x = (distD c[q] v, (q : Int), ()) := by
  obtain ⟨q, h1, rfl⟩ := List.mem_map.1 h
  have hq := List.mem_range.1 h1
  exact ⟨q, hq, by simp [farF, hq]⟩
theorem farL_in {c : List (List Int)} {v : List Int} {q : Nat} (h : q < c.length) : (distD c[q] v, (q : Int), ()) ∈ farL c v c.length :=
  List.mem_map.2 ⟨q, List.mem_range.2 h, by simp [farF, h]⟩
theorem far_head {c : List (List Int)} {v : List Int} (h : bothV c v = 0) (h0 : 0 < (farV c v).length) : (farV c v)[0] = ((nearV c v).2, (nearV c v).1, ()) := by
  obtain ⟨h1, h2, h3⟩ := bothV_inv h
  obtain ⟨h4, h5, _⟩ := checkV_inv h1
  obtain ⟨p, hp, e, hm⟩ := near_spec v c (by rintro rfl; simp at h4)
  have hd : ∀ q (hq : q < c.length), distD c[q] v = sqs c[q] v := fun q hq => by rw [distD, if_pos (h3 _ (List.getElem_mem hq))]
  have e1 : nearV c v = ((p : Int), sqs c[p] v) := by rw [nearV, if_pos h, e]
  rw [e1]
  have hS : farV c v = nearSort (farL c v c.length) := by rw [farV, if_pos h]
  have hmem : (farV c v)[0] ∈ farL c v c.length := by
    have h9 : ∀ x, x ∈ farV c v → x ∈ farL c v c.length := fun x hx => by rw [hS] at hx; exact (nearSort_perm _).mem_iff.1 hx
    exact h9 _ (List.getElem_mem _)
  obtain ⟨q, hq, e2⟩ := farL_mem hmem
  have hin : (distD c[p] v, (p : Int), ()) ∈ farV c v := by rw [hS]; exact (nearSort_perm _).mem_iff.2 (farL_in hp)
  obtain ⟨j, hj, e3⟩ := List.getElem_of_mem hin
  have hs : Srt (farV c v) := by rw [hS]; exact nearSort_srt _
  have l1 := hs.get h0 hj (Nat.zero_le _)
  rw [e3] at l1
  rw [hd p hp] at l1
  refine ltLess.tot _ _ ?_ l1
  rw [e2, hd q hq, ← Bool.not_eq_true, lessV_iff]
  have := hm q hq
  simp only
  omega
theorem farV_len {c : List (List Int)} {v : List Int} (h : bothV c v = 0) : (farV c v).length = c.length := by rw [farV, if_pos h, nearSort_len, farL_len]

/-! The loop rord of wayfinder/wayfinderref13.Order. -/
abbrev rordZ := (Int × (List Near) × (List Int) × Int × Unit) × (Unit × Unit)
noncomputable def rordSl : Tel (Int × (List Near) × (List Int) × Int × Unit) := .cons 2 (.int .i64) (.cons 8 (.lst En) (.cons 10 (.own Ei64 0) (.cons 11 (.int .i64) (.nil))))
noncomputable def rordBl : BTel (Unit × Unit) := .cons (.spare) (.nil)
noncomputable def rordSl0 : Tel (Int × (List Near) × Unit × Int × Unit) := .cons 2 (.int .i64) (.cons 8 (.lst En) (.cons 10 (.nilS) (.cons 11 (.int .i64) (.nil))))
noncomputable def rordBl0 : BTel (Unit) := .nil
noncomputable def rordZ0 : (Int × (List Near) × Unit × Int × Unit) → (Unit) → rordZ := fun (n, (l, ((), (i, ())))) () => ((n, (l, ([], (i, ())))), ((), ()))
noncomputable def rordFs : List (LForm rordZ) := [⟨_, _, rordSl, rordBl, fun x y => (x, y)⟩, ⟨_, _, rordSl0, rordBl0, rordZ0⟩]
noncomputable def rordAlts (R0 : rordZ → ((List Int) × Unit) → (Unit × Unit) → Prop) (R1 : rordZ → (Unit × Unit) → (Unit) → Prop) : List (Alt rordZ) := [⟨.exit 0, (List Int) × Unit, Unit × Unit, .cons 10 (.own Ei64 0) (.nil), .cons (.spare) (.nil), R0⟩, ⟨.exit 0, Unit × Unit, Unit, .cons 10 (.nilS) (.nil), .nil, R1⟩]

theorem rordForm (n : Int) (l : List Near) (out : List Int) (i : Int) (N : rordZ → Prop) (R0 : rordZ → ((List Int) × Unit) → (Unit × Unit) → Prop) (R1 : rordZ → (Unit × Unit) → (Unit) → Prop) : ((runW Try.prog (KL [] []) 100).code none 36 43 (loopBody Try.prog 36 8) (mkT (rordSl.av id (n, (l, (out, (i, ())))))) [] (stL true (rordBl.obs id ((), ()))) (postL 0 rordFs (rordAlts R0 R1) ((n, (l, (out, (i, ())))), ((), ())) N)) =
  ( ifp (!leInt n i) (ifp (!leInt (Int.ofNat l.length) i) (idxOk i l.length ∧ ∃ (x : Int), nth (((natOf i).mul (2 : Nat)).add (1 : Nat)) (List.flatMap En.f l) =
  some (AV.int IntKind.i64 x) ∧ (1 : Nat) ≤ (1 : Nat) ∧ ifp (roomy (out.length.add (1 : Nat)) (8 : Nat)) (True ∧ ((∃ (l_1 : List Near), Wk (AV.vs (List.flatMap
  En.f l) l.length l.length false none (2 : Nat)) (lst En l_1) ∧ ∃ (l : List Int), (WkL (List.flatMap Ei64.f out ++ [AV.int IntKind.i64 x]) (List.flatMap Ei64.f
  l) ∧ out.length.add (1 : Nat) = l.length ∧ (1 : Nat) = (1 : Nat)) ∧ true = true ∧ N ((n, l_1, l, wrapF IntKind.i64 (i.add (1 : Int)), ()), (), ())) ∨ ∃ (l_1 :
  List Near), Wk (AV.vs (List.flatMap En.f l) l.length l.length false none (2 : Nat)) (lst En l_1) ∧ False)) False) ((True ∧ ∃ (l_1 : List Int), (WkL
  (List.flatMap Ei64.f out) (List.flatMap Ei64.f l_1) ∧ out.length = l_1.length ∧ (1 : Nat) = (1 : Nat)) ∧ true = true ∧ R0 ((n, l, out, i, ()), (), ()) (l_1,
  ()) ((), ())) ∨ True ∧ False)) ((True ∧ ∃ (l_1 : List Int), (WkL (List.flatMap Ei64.f out) (List.flatMap Ei64.f l_1) ∧ out.length = l_1.length ∧ (1 : Nat) = (1
  : Nat)) ∧ true = true ∧ R0 ((n, l, out, i, ()), (), ()) (l_1, ()) ((), ())) ∨ True ∧ False)) := by kernel_rfl

theorem rordForm0 (n : Int) (l : List Near) (i : Int) (N : rordZ → Prop) (R0 : rordZ → ((List Int) × Unit) → (Unit × Unit) → Prop) (R1 : rordZ → (Unit × Unit) → (Unit) → Prop) : ((runW Try.prog (KL [] []) 100).code none 36 43 (loopBody Try.prog 36 8) (mkT (rordSl0.av id (n, (l, ((), (i, ())))))) [] (stL true (rordBl0.obs id ())) (postL 0 rordFs (rordAlts R0 R1) (rordZ0 (n, (l, ((), (i, ())))) ()) N)) =
  ( ifp (!leInt n i) (ifp (!leInt (Int.ofNat l.length) i) (idxOk i l.length ∧ ∃ (x : Int), nth (((natOf i).mul (2 : Nat)).add (1 : Nat)) (List.flatMap En.f l) =
  some (AV.int IntKind.i64 x) ∧ (1 : Nat) ≤ (1 : Nat) ∧ True ∧ ((∃ (l_1 : List Near), Wk (AV.vs (List.flatMap En.f l) l.length l.length false none (2 : Nat))
  (lst En l_1) ∧ ∃ (l : List Int), (WkL [AV.int IntKind.i64 x] (List.flatMap Ei64.f l) ∧ (1 : Nat) = l.length ∧ (1 : Nat) = (1 : Nat)) ∧ true = true ∧ N ((n,
  l_1, l, wrapF IntKind.i64 (i.add (1 : Int)), ()), (), ())) ∨ ∃ (l_1 : List Near), Wk (AV.vs (List.flatMap En.f l) l.length l.length false none (2 : Nat)) (lst
  En l_1) ∧ False)) (True ∧ False ∨ True ∧ true = true ∧ R1 ((n, l, [], i, ()), (), ()) ((), ()) ())) (True ∧ False ∨ True ∧ true = true ∧ R1 ((n, l, [], i, ()),
  (), ()) ((), ()) ())) := by kernel_rfl

def rordInv : rordZ → Prop := fun ((n, (l, (out, (i, ())))), ((), ())) => ∃ k : Nat, i = k ∧ 0 ≤ n ∧ k ≤ n.toNat ∧ k ≤ l.length ∧ l.length ≤ 4096 ∧ out = (l.take k).map fun x => x.2.1
def rordMu : rordZ → Nat := fun ((n, (l, (out, (i, ())))), ((), ())) => l.length - i.toNat
def rordR0 : rordZ → ((List Int) × Unit) → (Unit × Unit) → Prop := fun ((n, (l, (out, (i, ())))), ((), ())) (r, _) _ => r = (l.take n.toNat).map fun x => x.2.1
def rordR1 : rordZ → (Unit × Unit) → (Unit) → Prop := fun ((n, (l, (out, (i, ())))), ((), ())) _ _ => (l.take n.toNat) = []
noncomputable def rordC : LoopC := loopC 0 rordFs (rordAlts rordR0 rordR1) rordInv

theorem rordStep : stepsOk Try.prog (KL [] []) 100 36 43 (loopBody Try.prog 36 8) 0 true rordFs (rordAlts rordR0 rordR1) rordInv rordMu ⟨_, _, rordSl, rordBl, fun x y => (x, y)⟩ := by
  intro x y hz
  obtain ⟨n, l, out, i, _⟩ := x
  obtain ⟨_, _⟩ := y
  refine (rordForm n l out i _ _ _).mpr ?_
  obtain ⟨k, rfl, n0, hkn, hk, hl, rfl⟩ := hz
  have hol : ((l.take k).map fun x => x.2.1).length = k := by rw [List.length_map, List.length_take]; omega
  have fin : ¬ ((k : Int) < n ∧ k < l.length) → (l.take k).map (fun x => x.2.1) = (l.take n.toNat).map fun x => x.2.1 := fun h => by
    by_cases c : k = l.length
    · rw [take_all (by omega), List.take_of_length_le (by omega)]
    · rw [show k = n.toNat by omega]
  rw [ifp_lt]
  split
  · rename_i h1
    rw [ifp_lt]
    simp only [natOf_nat]
    split
    · rename_i h
      have hkl : k < l.length := by simpa using h
      refine ⟨idx_ok hkl, _, nth_near1 hkl, Nat.le_refl _, ?_⟩
      rw [ifp_pos (roomy_small (by simp only [Nat.add_eq]; omega) (by decide))]
      refine ⟨trivial, Or.inl ⟨l, Wk.refl _, (l.take (k + 1)).map fun x => x.2.1, ⟨?_, ?_, (by first | exact trivial | exact rfl)⟩, (by first | exact trivial | exact rfl), ?_⟩⟩
      · rw [map_take_succ hkl]; exact wkl_snoc (E := Ei64) (WkL.refl _)
      · rw [map_take_succ hkl]; exact len_snoc
      · rw [wsucc (by omega)]
        exact ⟨⟨k + 1, rfl, n0, by omega, hkl, hl, rfl⟩, by show l.length - (k + 1) < l.length - k; omega, fun _ _ h => h, fun _ _ h => h, trivial⟩
    · rename_i h
      exact Or.inl ⟨trivial, _, ⟨WkL.refl _, (by first | exact trivial | exact rfl), (by first | exact trivial | exact rfl)⟩, (by first | exact trivial | exact rfl), fin (by rintro ⟨_, q⟩; exact h (by simpa using q))⟩
  · rename_i h
    exact Or.inl ⟨trivial, _, ⟨WkL.refl _, (by first | exact trivial | exact rfl), (by first | exact trivial | exact rfl)⟩, (by first | exact trivial | exact rfl), fin (by rintro ⟨q, _⟩; exact h q)⟩
theorem rordStep0 : stepsOk Try.prog (KL [] []) 100 36 43 (loopBody Try.prog 36 8) 0 true rordFs (rordAlts rordR0 rordR1) rordInv rordMu ⟨_, _, rordSl0, rordBl0, rordZ0⟩ := by
  intro x y hz
  obtain ⟨n, l, _, i, _⟩ := x
  obtain _ := y
  refine (rordForm0 n l i _ _ _).mpr ?_
  obtain ⟨k, rfl, n0, hkn, hk, hl, h0⟩ := hz
  obtain rfl : k = 0 := by have := congrArg List.length h0; rw [List.length_map, List.length_take] at this; simp at this; omega
  rw [ifp_lt]
  split
  · rename_i h1
    rw [ifp_lt]
    simp only [natOf_nat]
    split
    · rename_i h
      have hkl : 0 < l.length := by simpa using h
      refine ⟨idx_ok hkl, _, nth_near1 hkl, Nat.le_refl _, trivial, Or.inl ⟨l, Wk.refl _, (l.take 1).map fun x => x.2.1, ⟨?_, ?_, (by first | exact trivial | exact rfl)⟩, (by first | exact trivial | exact rfl), ?_⟩⟩
      · rw [map_take_succ hkl]; exact WkL.refl _
      · rw [List.length_map, List.length_take]; omega
      · rw [wsucc (by omega)]
        exact ⟨⟨1, rfl, n0, by omega, hkl, hl, rfl⟩, by show l.length - 1 < l.length - 0; omega, fun _ _ h => h, fun _ _ h => h, trivial⟩
    · rename_i h
      have h' : l = [] := List.length_eq_zero_iff.1 (by simp at h; simp [h])
      exact Or.inr ⟨trivial, (by first | exact trivial | exact rfl), by show l.take n.toNat = []; rw [h', List.take_nil]⟩
  · rename_i h
    exact Or.inr ⟨trivial, (by first | exact trivial | exact rfl), by show l.take n.toNat = []; rw [show n.toNat = 0 by omega, List.take_zero]⟩
theorem rordOk : LoopOk Try.prog 36 43 (.loop (loopBody Try.prog 36 8)) rordC := loop_ok rordMu mixed (KL_ok (cc_nil)) rfl (steps_cons rordStep (steps_cons rordStep0 (steps_nil)))

/-! The loop ord of wayfinder/cell.Order. -/
abbrev ordZ := ((List Near) × Int × Int × (List Int) × Unit) × (Unit × Unit)
noncomputable def ordSl : Tel ((List Near) × Int × Int × (List Int) × Unit) := .cons 31 (.lst En) (.cons 32 (.int .i64) (.cons 33 (.int .i64) (.cons 10 (.own Ei64 0) (.nil))))
noncomputable def ordBl : BTel (Unit × Unit) := .cons (.spare) (.nil)
noncomputable def ordSl0 : Tel ((List Near) × Int × Int × Unit × Unit) := .cons 31 (.lst En) (.cons 32 (.int .i64) (.cons 33 (.int .i64) (.cons 10 (.nilS) (.nil))))
noncomputable def ordBl0 : BTel (Unit) := .nil
noncomputable def ordZ0 : ((List Near) × Int × Int × Unit × Unit) → (Unit) → ordZ := fun (l, (n, (i, ((), ())))) () => ((l, (n, (i, ([], ())))), ((), ()))
noncomputable def ordFs : List (LForm ordZ) := [⟨_, _, ordSl, ordBl, fun x y => (x, y)⟩, ⟨_, _, ordSl0, ordBl0, ordZ0⟩]
noncomputable def ordAlts (R0 : ordZ → ((List Int) × Unit) → (Unit × Unit) → Prop) (R1 : ordZ → (Unit × Unit) → (Unit) → Prop) : List (Alt ordZ) := [⟨.exit 1, (List Int) × Unit, Unit × Unit, .cons 10 (.own Ei64 0) (.nil), .cons (.spare) (.nil), R0⟩, ⟨.exit 1, Unit × Unit, Unit, .cons 10 (.nilS) (.nil), .nil, R1⟩]

theorem ordForm (l : List Near) (n : Int) (i : Int) (out : List Int) (N : ordZ → Prop) (R0 : ordZ → ((List Int) × Unit) → (Unit × Unit) → Prop) (R1 : ordZ → (Unit × Unit) → (Unit) → Prop) : ((runW Try.prog (KL [] []) 100).code none 31 44 (loopBody Try.prog 31 8) (mkT (ordSl.av id (l, (n, (i, (out, ())))))) [] (stL true (ordBl.obs id ((), ()))) (postL 0 ordFs (ordAlts R0 R1) ((l, (n, (i, (out, ())))), ((), ())) N)) =
  ( ifp (!leInt n i) (idxOk i l.length ∧ ∃ (x : Int), nth (((natOf i).mul (2 : Nat)).add (0 : Nat)) (List.flatMap En.f l) = some (AV.int IntKind.i64 x) ∧ ∃ (x :
  Int), nth (((natOf i).mul (2 : Nat)).add (1 : Nat)) (List.flatMap En.f l) = some (AV.int IntKind.i64 x) ∧ (1 : Nat) ≤ (1 : Nat) ∧ ifp (roomy (out.length.add (1
  : Nat)) (8 : Nat)) (True ∧ ((∃ (l_1 : List Near), Wk (AV.vs (List.flatMap En.f l) l.length l.length false none (2 : Nat)) (lst En l_1) ∧ ∃ (l : List Int), (WkL
  (List.flatMap Ei64.f out ++ [AV.int IntKind.i64 x]) (List.flatMap Ei64.f l) ∧ out.length.add (1 : Nat) = l.length ∧ (1 : Nat) = (1 : Nat)) ∧ true = true ∧ N
  ((l_1, n, wrapF IntKind.i64 (i.add (1 : Int)), l, ()), (), ())) ∨ ∃ (l_1 : List Near), Wk (AV.vs (List.flatMap En.f l) l.length l.length false none (2 : Nat))
  (lst En l_1) ∧ False)) False) ((True ∧ ∃ (l_1 : List Int), (WkL (List.flatMap Ei64.f out) (List.flatMap Ei64.f l_1) ∧ out.length = l_1.length ∧ (1 : Nat) = (1
  : Nat)) ∧ true = true ∧ R0 ((l, n, i, out, ()), (), ()) (l_1, ()) ((), ())) ∨ True ∧ False)) := by kernel_rfl

theorem ordForm0 (l : List Near) (n : Int) (i : Int) (N : ordZ → Prop) (R0 : ordZ → ((List Int) × Unit) → (Unit × Unit) → Prop) (R1 : ordZ → (Unit × Unit) → (Unit) → Prop) : ((runW Try.prog (KL [] []) 100).code none 31 44 (loopBody Try.prog 31 8) (mkT (ordSl0.av id (l, (n, (i, ((), ())))))) [] (stL true (ordBl0.obs id ())) (postL 0 ordFs (ordAlts R0 R1) (ordZ0 (l, (n, (i, ((), ())))) ()) N)) =
  ( ifp (!leInt n i) (idxOk i l.length ∧ ∃ (x : Int), nth (((natOf i).mul (2 : Nat)).add (0 : Nat)) (List.flatMap En.f l) = some (AV.int IntKind.i64 x) ∧ ∃ (x :
  Int), nth (((natOf i).mul (2 : Nat)).add (1 : Nat)) (List.flatMap En.f l) = some (AV.int IntKind.i64 x) ∧ (1 : Nat) ≤ (1 : Nat) ∧ True ∧ ((∃ (l_1 : List Near),
  Wk (AV.vs (List.flatMap En.f l) l.length l.length false none (2 : Nat)) (lst En l_1) ∧ ∃ (l : List Int), (WkL [AV.int IntKind.i64 x] (List.flatMap Ei64.f l) ∧
  (1 : Nat) = l.length ∧ (1 : Nat) = (1 : Nat)) ∧ true = true ∧ N ((l_1, n, wrapF IntKind.i64 (i.add (1 : Int)), l, ()), (), ())) ∨ ∃ (l_1 : List Near), Wk
  (AV.vs (List.flatMap En.f l) l.length l.length false none (2 : Nat)) (lst En l_1) ∧ False)) (True ∧ False ∨ True ∧ true = true ∧ R1 ((l, n, i, [], ()), (), ())
  ((), ()) ())) := by kernel_rfl

def ordInv : ordZ → Prop := fun ((l, (n, (i, (out, ())))), ((), ())) => ∃ k : Nat, i = k ∧ n = l.length ∧ k ≤ l.length ∧ l.length ≤ 4096 ∧ out = (l.take k).map fun x => x.2.1
def ordMu : ordZ → Nat := fun ((l, (n, (i, (out, ())))), ((), ())) => l.length - i.toNat
def ordR0 : ordZ → ((List Int) × Unit) → (Unit × Unit) → Prop := fun ((l, (n, (i, (out, ())))), ((), ())) (r, _) _ => r = l.map fun x => x.2.1
def ordR1 : ordZ → (Unit × Unit) → (Unit) → Prop := fun ((l, (n, (i, (out, ())))), ((), ())) _ _ => l = []
noncomputable def ordC : LoopC := loopC 0 ordFs (ordAlts ordR0 ordR1) ordInv

theorem ordStep : stepsOk Try.prog (KL [] []) 100 31 44 (loopBody Try.prog 31 8) 0 true ordFs (ordAlts ordR0 ordR1) ordInv ordMu ⟨_, _, ordSl, ordBl, fun x y => (x, y)⟩ := by
  intro x y hz
  obtain ⟨l, n, i, out, _⟩ := x
  obtain ⟨_, _⟩ := y
  refine (ordForm l n i out _ _ _).mpr ?_
  obtain ⟨k, rfl, rfl, hk, hl, rfl⟩ := hz
  have hol : ((l.take k).map fun x => x.2.1).length = k := by rw [List.length_map, List.length_take]; omega
  rw [ifp_lt]
  simp only [natOf_nat]
  split
  · rename_i h
    have hkl : k < l.length := by simpa using h
    refine ⟨idx_ok hkl, _, nth_near0 hkl, _, nth_near1 hkl, Nat.le_refl _, ?_⟩
    rw [ifp_pos (roomy_small (by simp only [Nat.add_eq]; omega) (by decide))]
    refine ⟨trivial, Or.inl ⟨l, Wk.refl _, (l.take (k + 1)).map fun x => x.2.1, ⟨?_, ?_, (by first | exact trivial | exact rfl)⟩, (by first | exact trivial | exact rfl), ?_⟩⟩
    · rw [map_take_succ hkl]; exact wkl_snoc (E := Ei64) (WkL.refl _)
    · rw [map_take_succ hkl]; exact len_snoc
    · rw [wsucc (by omega)]
      exact ⟨⟨k + 1, rfl, rfl, hkl, hl, rfl⟩, by show l.length - (k + 1) < l.length - k; omega, fun _ _ h => h, fun _ _ h => h, trivial⟩
  · rename_i h
    have hkl : ¬ k < l.length := by simpa using h
    exact Or.inl ⟨trivial, _, ⟨WkL.refl _, (by first | exact trivial | exact rfl), (by first | exact trivial | exact rfl)⟩, (by first | exact trivial | exact rfl), by show (l.take k).map _ = _; rw [take_all hkl]⟩
theorem ordStep0 : stepsOk Try.prog (KL [] []) 100 31 44 (loopBody Try.prog 31 8) 0 true ordFs (ordAlts ordR0 ordR1) ordInv ordMu ⟨_, _, ordSl0, ordBl0, ordZ0⟩ := by
  intro x y hz
  obtain ⟨l, n, i, _, _⟩ := x
  obtain _ := y
  refine (ordForm0 l n i _ _ _).mpr ?_
  obtain ⟨k, rfl, rfl, hk, hl, h0⟩ := hz
  obtain rfl : k = 0 := by have := congrArg List.length h0; rw [List.length_map, List.length_take] at this; simp at this; omega
  rw [ifp_lt]
  simp only [natOf_nat]
  split
  · rename_i h
    have hkl : 0 < l.length := by simpa using h
    refine ⟨idx_ok hkl, _, nth_near0 hkl, _, nth_near1 hkl, Nat.le_refl _, trivial, Or.inl ⟨l, Wk.refl _, (l.take 1).map fun x => x.2.1, ⟨?_, ?_, (by first | exact trivial | exact rfl)⟩, (by first | exact trivial | exact rfl), ?_⟩⟩
    · rw [map_take_succ hkl]; exact WkL.refl _
    · rw [List.length_map, List.length_take]; omega
    · rw [wsucc (by omega)]
      exact ⟨⟨1, rfl, rfl, hkl, hl, rfl⟩, by show l.length - 1 < l.length - 0; omega, fun _ _ h => h, fun _ _ h => h, trivial⟩
  · rename_i h
    exact Or.inr ⟨trivial, (by first | exact trivial | exact rfl), List.length_eq_zero_iff.1 (by simp at h; simp [h])⟩
theorem ordOk : LoopOk Try.prog 31 44 (.loop (loopBody Try.prog 31 8)) ordC := loop_ok ordMu mixed (KL_ok (cc_nil)) rfl (steps_cons ordStep (steps_cons ordStep0 (steps_nil)))

/-! wayfinder/wayfinderref13.Order -/
noncomputable def rordT : Tel ((List (List Int)) × (List Int) × Int × Unit) := .cons 0 (.lst Ell) (.cons 1 (.lst Ei32) (.cons 2 (.int .i64) (.nil)))

theorem rordFn (c : List (List Int)) (v : List Int) (n : Int) (Q : AV → Prop) : (callW Try.prog (runW Try.prog (KL [(38, rfarK)] [(36, [(8, rordC)])]) 200) 36 (rordT.cells id (c, (v, (n, ())))) (stE true) (fun x st => frzW st x Q)) =
  ( ∃ (l : List (List Int)), Wk (AV.vs (List.flatMap Ell.f c) c.length c.length false none (1 : Nat)) (lst Ell l) ∧ ∃ (l_1 : List Int), Wk (AV.vs (List.flatMap
  Ei32.f v) v.length v.length false none (1 : Nat)) (lst Ei32 l_1) ∧ rfarPre (l, l_1, ()) ∧ ifp (!eqInt (bothV l l_1) (0 : Int)) (Q (AV.tuple [AV.nilSlice,
  AV.int IntKind.i64 (bothV l l_1)])) (ifp (!leInt (0 : Int) n) (Q (AV.tuple [AV.nilSlice, AV.int IntKind.i64 (2 : Int)])) (LoopOk Try.prog (36 : FuncId) (43 :
  Nat) (loopBody Try.prog (36 : FuncId) (8 : Nat)).loop rordC ∧ True ∧ True ∧ ((∃ (l_2 : List Near), Wk (AV.vs (List.flatMap En.f (farV l l_1)) (farV l
  l_1).length (farV l l_1).length false none (2 : Nat)) (lst En l_2) ∧ False) ∨ ∃ (l_2 : List Near), Wk (AV.vs (List.flatMap En.f (farV l l_1)) (farV l
  l_1).length (farV l l_1).length false none (2 : Nat)) (lst En l_2) ∧ true = true ∧ rordInv ((n, l_2, [], (0 : Int), ()), (), ()) ∧ (∀ (c : List Int × Unit) (d
  : Unit × Unit), rordR0 ((n, l_2, [], (0 : Int), ()), (), ()) c d → Q (AV.tuple [AV.vs (List.flatMap Ei64.f c.1) c.1.length c.1.length false (some (0 : Nat)) (1
  : Nat), AV.int IntKind.i64 (0 : Int)])) ∧ (∀ (c : Unit × Unit) (d : Unit), rordR1 ((n, l_2, [], (0 : Int), ()), (), ()) c d → Q (AV.tuple [AV.nilSlice, AV.int
  IntKind.i64 (0 : Int)])) ∧ True)))) := by kernel_rfl

def rordPre : (List (List Int)) × (List Int) × Int × Unit → Prop := fun (c, (v, (n, ()))) => True
noncomputable def rordRes : (List (List Int)) × (List Int) × Int × Unit → AV := fun (c, (v, (n, ()))) => .tuple [lst Ei64 (ordL c v n), .int .i64 (ordE c v n)]
noncomputable def rordK : CallC := valC rordT rordPre rordRes

theorem rordVal (c : List (List Int)) (v : List Int) (n : Int) (hp : rordPre (c, (v, (n, ())))) : Val Try.prog 36 (rordT.cells id (c, (v, (n, ())))) (rordRes (c, (v, (n, ())))) := by
  refine Val.ofF mixed (KL_ok (cc_cons rfarCc (cc_nil))) (freesC rfl _) (rordFn c v n) ?_
  refine ⟨c, Wk.refl _, v, Wk.refl _, trivial, ?_⟩
  rw [ifp_ne, ifp_lt]
  split
  · rename_i h
    obtain ⟨h1, h2, h3⟩ := bothV_inv h
    obtain ⟨h4, h5, _⟩ := checkV_inv h1
    have hlen := farV_len h
    split
    · rename_i hn
      refine tells_tuple ⟨?_, tells_int (by rw [ordE, if_neg (by simp [h]), if_pos hn]), trivial⟩
      show Tells .nilSlice (lst Ei64 (ordL c v n))
      rw [ordL, show n.toNat = 0 by omega]; exact tells_nil _
    · rename_i hn
      have hn0 : 0 ≤ n := by omega
      have eE : ordE c v n = 0 := by rw [ordE, if_neg (by simp [h]), if_neg hn]
      refine ⟨rordOk, trivial, trivial, Or.inr ⟨_, Wk.refl _, (by first | exact trivial | exact rfl), ⟨0, rfl, hn0, Nat.zero_le _, Nat.zero_le _, by omega, by simp⟩, fun d _ hr => ?_, fun _ _ hr => ?_, trivial⟩⟩
      · obtain ⟨r, _⟩ := d
        have hr' : r = ordL c v n := hr
        exact tells_tuple ⟨tells_lst ⟨by rw [← hr'], by rw [← hr'], rfl⟩, tells_int eE.symm, trivial⟩
      · have hr' : (farV c v).take n.toNat = [] := hr
        refine tells_tuple ⟨?_, tells_int eE.symm, trivial⟩
        show Tells .nilSlice (lst Ei64 (ordL c v n))
        rw [ordL, hr']; exact tells_nil _
  · rename_i h
    refine tells_tuple ⟨?_, tells_int (by rw [ordE, if_pos h]), trivial⟩
    show Tells .nilSlice (lst Ei64 (ordL c v n))
    rw [ordL, farV, if_neg h, List.take_nil]; exact tells_nil _
theorem rordCc : CcOk Try.prog 36 rordK := val_ok rfl (fun ⟨c, ⟨v, ⟨n, _⟩⟩⟩ h => rordVal c v n h)

/-! wayfinder/cell.Order -/
noncomputable def ordT : Tel ((List (List Int)) × (List Int) × Int × Unit) := .cons 0 (.lst Ell) (.cons 1 (.lst Ei32) (.cons 2 (.int .i64) (.nil)))

theorem ordFn (c : List (List Int)) (v : List Int) (n : Int) (Q : AV → Prop) : (callW Try.prog (runW Try.prog (KL [(37, farK)] [(31, [(8, ordC)])]) 200) 31 (ordT.cells id (c, (v, (n, ())))) (stE true) (fun x st => frzW st x Q)) =
  ( ∃ (l : List (List Int)), Wk (AV.vs (List.flatMap Ell.f c) c.length c.length false none (1 : Nat)) (lst Ell l) ∧ ∃ (l_1 : List Int), Wk (AV.vs (List.flatMap
  Ei32.f v) v.length v.length false none (1 : Nat)) (lst Ei32 l_1) ∧ farPre (l, l_1, ()) ∧ ifp (!eqInt (bothV l l_1) (0 : Int)) (Q (AV.tuple [AV.nilSlice, AV.int
  IntKind.i64 (bothV l l_1)])) (ifp (!leInt (0 : Int) n) (Q (AV.tuple [AV.nilSlice, AV.int IntKind.i64 (2 : Int)])) ((0 : Int) ≤ ifb (leInt n (Int.ofNat (farV l
  l_1).length)) n (Int.ofNat (farV l l_1).length) ∧ ifb (leInt n (Int.ofNat (farV l l_1).length)) n (Int.ofNat (farV l l_1).length) ≤ ↑(farV l l_1).length ∧
  natOf (ifb true (ifb (leInt n (Int.ofNat (farV l l_1).length)) n (Int.ofNat (farV l l_1).length)) (ifb (leInt (Int.ofNat (farV l l_1).length) n) n (Int.ofNat
  (farV l l_1).length))) ≤ (farV l l_1).length ∧ (List.flatMap En.f (farV l l_1)).length = (farV l l_1).length.mul (2 : Nat) ∧ LoopOk Try.prog (31 : FuncId) (44
  : Nat) (loopBody Try.prog (31 : FuncId) (8 : Nat)).loop ordC ∧ True ∧ True ∧ ((∃ (l_2 : List Near), Wk (AV.vs (List.take (((natOf (ifb true (ifb (leInt n
  (Int.ofNat (farV l l_1).length)) n (Int.ofNat (farV l l_1).length)) (ifb (leInt (Int.ofNat (farV l l_1).length) n) n (Int.ofNat (farV l l_1).length)))).sub (0
  : Nat)).mul (2 : Nat)) (List.drop (0 : Nat) (List.flatMap En.f (farV l l_1)))) ((natOf (ifb true (ifb (leInt n (Int.ofNat (farV l l_1).length)) n (Int.ofNat
  (farV l l_1).length)) (ifb (leInt (Int.ofNat (farV l l_1).length) n) n (Int.ofNat (farV l l_1).length)))).sub (0 : Nat)) ((farV l l_1).length.sub (0 : Nat))
  (mxEx none false) none (2 : Nat)) (lst En l_2) ∧ False) ∨ ∃ (l_2 : List Near), Wk (AV.vs (List.take (((natOf (ifb true (ifb (leInt n (Int.ofNat (farV l
  l_1).length)) n (Int.ofNat (farV l l_1).length)) (ifb (leInt (Int.ofNat (farV l l_1).length) n) n (Int.ofNat (farV l l_1).length)))).sub (0 : Nat)).mul (2 :
  Nat)) (List.drop (0 : Nat) (List.flatMap En.f (farV l l_1)))) ((natOf (ifb true (ifb (leInt n (Int.ofNat (farV l l_1).length)) n (Int.ofNat (farV l
  l_1).length)) (ifb (leInt (Int.ofNat (farV l l_1).length) n) n (Int.ofNat (farV l l_1).length)))).sub (0 : Nat)) ((farV l l_1).length.sub (0 : Nat)) (mxEx none
  false) none (2 : Nat)) (lst En l_2) ∧ true = true ∧ ordInv ((l_2, Int.ofNat ((natOf (ifb true (ifb (leInt n (Int.ofNat (farV l l_1).length)) n (Int.ofNat (farV
  l l_1).length)) (ifb (leInt (Int.ofNat (farV l l_1).length) n) n (Int.ofNat (farV l l_1).length)))).sub (0 : Nat)), (0 : Int), [], ()), (), ()) ∧ (∀ (c : List
  Int × Unit) (d : Unit × Unit), ordR0 ((l_2, Int.ofNat ((natOf (ifb true (ifb (leInt n (Int.ofNat (farV l l_1).length)) n (Int.ofNat (farV l l_1).length)) (ifb
  (leInt (Int.ofNat (farV l l_1).length) n) n (Int.ofNat (farV l l_1).length)))).sub (0 : Nat)), (0 : Int), [], ()), (), ()) c d → Q (AV.tuple [AV.vs
  (List.flatMap Ei64.f c.1) c.1.length c.1.length false (some (0 : Nat)) (1 : Nat), AV.int IntKind.i64 (0 : Int)])) ∧ (∀ (c : Unit × Unit) (d : Unit), ordR1
  ((l_2, Int.ofNat ((natOf (ifb true (ifb (leInt n (Int.ofNat (farV l l_1).length)) n (Int.ofNat (farV l l_1).length)) (ifb (leInt (Int.ofNat (farV l
  l_1).length) n) n (Int.ofNat (farV l l_1).length)))).sub (0 : Nat)), (0 : Int), [], ()), (), ()) c d → Q (AV.tuple [AV.nilSlice, AV.int IntKind.i64 (0 :
  Int)])) ∧ True)))) := by kernel_rfl

def ordPre : (List (List Int)) × (List Int) × Int × Unit → Prop := fun (c, (v, (n, ()))) => True
noncomputable def ordRes : (List (List Int)) × (List Int) × Int × Unit → AV := fun (c, (v, (n, ()))) => .tuple [lst Ei64 (ordL c v n), .int .i64 (ordE c v n)]
noncomputable def ordK : CallC := valC ordT ordPre ordRes

theorem ordVal (c : List (List Int)) (v : List Int) (n : Int) (hp : ordPre (c, (v, (n, ())))) : Val Try.prog 31 (ordT.cells id (c, (v, (n, ())))) (ordRes (c, (v, (n, ())))) := by
  refine Val.ofF mixed (KL_ok (cc_cons farCc (cc_nil))) (freesC rfl _) (ordFn c v n) ?_
  refine ⟨c, Wk.refl _, v, Wk.refl _, trivial, ?_⟩
  rw [ifp_ne, ifp_lt]
  split
  · rename_i h
    obtain ⟨h1, h2, h3⟩ := bothV_inv h
    obtain ⟨h4, h5, _⟩ := checkV_inv h1
    have hlen := farV_len h
    split
    · rename_i hn
      refine tells_tuple ⟨?_, tells_int (by rw [ordE, if_neg (by simp [h]), if_pos hn]), trivial⟩
      show Tells .nilSlice (lst Ei64 (ordL c v n))
      rw [ordL, show n.toNat = 0 by omega]; exact tells_nil _
    · rename_i hn
      have hn0 : 0 ≤ n := by omega
      have eE : ordE c v n = 0 := by rw [ordE, if_neg (by simp [h]), if_neg hn]
      have hj : min n.toNat (farV c v).length ≤ (farV c v).length := Nat.min_le_right _ _
      have etk : (farV c v).take (min n.toNat (farV c v).length) = (farV c v).take n.toNat  := by
        rcases Nat.le_total n.toNat (farV c v).length with q | q
        · rw [Nat.min_eq_left q]
        · rw [Nat.min_eq_right q, List.take_length, List.take_of_length_le q]
      have hjl : ((farV c v).take (min n.toNat (farV c v).length)).length = min n.toNat (farV c v).length := by rw [List.length_take]; omega
      simp only [ifb_true, ifb_min hn0, natOf_nat]
      refine ⟨by omega, by omega, hj, near_len _, ordOk, trivial, trivial, Or.inr ⟨(farV c v).take (min n.toNat (farV c v).length), wk_near_take hj, (by first | exact trivial | exact rfl), ⟨0, rfl, by rw [hjl]; rfl, Nat.zero_le _, by omega, by simp⟩, fun d _ hr => ?_, fun _ _ hr => ?_, trivial⟩⟩
      · obtain ⟨r, _⟩ := d
        have hr' : r = ordL c v n := by rw [ordL, ← etk]; exact hr
        exact tells_tuple ⟨tells_lst ⟨by rw [← hr'], by rw [← hr'], rfl⟩, tells_int eE.symm, trivial⟩
      · have hr' : (farV c v).take n.toNat = [] := etk ▸ hr
        refine tells_tuple ⟨?_, tells_int eE.symm, trivial⟩
        show Tells .nilSlice (lst Ei64 (ordL c v n))
        rw [ordL, hr']; exact tells_nil _
  · rename_i h
    refine tells_tuple ⟨?_, tells_int (by rw [ordE, if_pos h]), trivial⟩
    show Tells .nilSlice (lst Ei64 (ordL c v n))
    rw [ordL, farV, if_neg h, List.take_nil]; exact tells_nil _
theorem ordCc : CcOk Try.prog 31 ordK := val_ok rfl (fun ⟨c, ⟨v, ⟨n, _⟩⟩⟩ h => ordVal c v n h)

/-! wayfinder/wayfinderref13.Nearest -/
noncomputable def rnearT : Tel ((List (List Int)) × (List Int) × Unit) := .cons 0 (.lst Ell) (.cons 1 (.lst Ei32) (.nil))

theorem rnearFn (c : List (List Int)) (v : List Int) (Q : AV → Prop) : (callW Try.prog (runW Try.prog (KL [(38, rfarK)] []) 200) 35 (rnearT.cells id (c, (v, ()))) (stE false) (fun x st => frzW st x Q)) =
  ( ∃ (l : List (List Int)), Wk (AV.vs (List.flatMap Ell.f c) c.length c.length false none (1 : Nat)) (lst Ell l) ∧ ∃ (l_1 : List Int), Wk (AV.vs (List.flatMap
  Ei32.f v) v.length v.length false none (1 : Nat)) (lst Ei32 l_1) ∧ rfarPre (l, l_1, ()) ∧ ifp (!eqInt (bothV l l_1) (0 : Int)) (Q (AV.tuple [AV.int IntKind.i64
  (0 : Int), AV.int IntKind.i64 (0 : Int), AV.int IntKind.i64 (bothV l l_1)])) (idxOk (0 : Int) (farV l l_1).length ∧ ∃ (x : Int), nth (1 : Nat) (List.flatMap
  En.f (farV l l_1)) = some (AV.int IntKind.i64 x) ∧ idxOk (0 : Int) (farV l l_1).length ∧ ∃ (x_1 : Int), nth (0 : Nat) (List.flatMap En.f (farV l l_1)) = some
  (AV.int IntKind.i64 x_1) ∧ True ∧ True ∧ Q (AV.tuple [AV.int IntKind.i64 x, AV.int IntKind.i64 x_1, AV.int IntKind.i64 (0 : Int)]))) := by kernel_rfl

def rnearPre : (List (List Int)) × (List Int) × Unit → Prop := fun (c, (v, ())) => True
noncomputable def rnearRes : (List (List Int)) × (List Int) × Unit → AV := fun (c, (v, ())) => .tuple [.int .i64 (nearV c v).1, .int .i64 (nearV c v).2, .int .i64 (bothV c v)]
noncomputable def rnearK : CallC := valC rnearT rnearPre rnearRes

theorem rnearVal (c : List (List Int)) (v : List Int) (hp : rnearPre (c, (v, ()))) : Val Try.prog 35 (rnearT.cells id (c, (v, ()))) (rnearRes (c, (v, ()))) := by
  refine Val.ofF mixed (KL_ok (cc_cons rfarCc (cc_nil))) (freesC rfl _) (rnearFn c v) ?_
  refine ⟨c, Wk.refl _, v, Wk.refl _, trivial, ?_⟩
  rw [ifp_ne]
  split
  · rename_i h
    obtain ⟨h1, h2, h3⟩ := bothV_inv h
    obtain ⟨h4, h5, _⟩ := checkV_inv h1
    have hlen := farV_len h
    have h0 : 0 < (farV c v).length := by omega
    have e := far_head h h0
    have e0 : nth 0 ((farV c v).flatMap En.f) = some (.int .i64 (farV c v)[0].1) := nth_near0 (k := 0) h0
    have e1 : nth 1 ((farV c v).flatMap En.f) = some (.int .i64 (farV c v)[0].2.1) := nth_near1 (k := 0) h0
    rw [e] at e0 e1
    refine ⟨idx_ok0 h0, _, e1, idx_ok0 h0, _, e0, trivial, trivial, ?_⟩
    exact tells_tuple ⟨tells_int rfl, tells_int rfl, tells_int h.symm, trivial⟩
  · rename_i h
    have e : nearV c v = (0, 0) := by rw [nearV, if_neg h]
    exact tells_tuple ⟨tells_int (by rw [e]), tells_int (by rw [e]), tells_int rfl, trivial⟩
theorem rnearCc : CcOk Try.prog 35 rnearK := val_ok rfl (fun ⟨c, ⟨v, _⟩⟩ h => rnearVal c v h)

end Go.Proofs.Ytfcdpdejoogapaa
