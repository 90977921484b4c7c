/- Part of the proof of RerankNarrow. -/
import Derived.Test.YteehkdejkemnmaaDoorRows
import Derived.Test.YteehkdejkemnmaaDoorDd
import Derived.ProofKit
import Derived.Test.YteehkdejkemnmaaDoorPa
import Derived.Test.YteehkdejkemnmaaDoorDe
set_option linter.unusedVariables false
set_option linter.unusedSimpArgs false
namespace Go.Proofs.YteehkdejkemnmaaDoor
open Go.Det Go.RowKit
set_option maxRecDepth 100000
abbrev Ei32 : Enc Int := Enc.int .i32
def uAs (x : Int) : Bool := decide (x < -131072) || decide (131072 < x)
def cw (v : List Int) : Int := if v.length < 1 ∨ 1024 < v.length then 2 else if v.any uAs then 11 else 0
def uA7 (a b : List Int) : Int := if cw a ≠ 0 then cw a else if cw b ≠ 0 then cw b else if a.length ≠ b.length then 2 else 0
def sqs : List Int → List Int → Int
 | x :: a, y :: b => (x - y) * (x - y) + sqs a b
 | _, _ => 0
def uA0 (a b : List Int) : Int := if uA7 a b = 0 then sqs a b else 0
def uDe (l : List (List Int)) (m n : Int) : Bool := decide ((l.length : Int) ≤ m) && l.all fun v => decide ((v.length : Int) ≤ n)
abbrev uEs := ((List Int) × Unit × Int × Int × Unit) × (Unit)
noncomputable def uQ5 : Tel ((List Int) × Unit × Int × Int × Unit) := .cons 0 (.lst Ei32) (.cons 1 (.fnp 78 []) (.ji 7 (.ji 8 (.nil))))
noncomputable def uQ9 : BTel (Unit) := .nil
noncomputable def uQ8 : List (LForm uEs) := [⟨_, _, uQ5, uQ9, fun x y => (x, y)⟩]
abbrev uBv := Int × Unit
noncomputable def uHi (R0 : uEs → (Unit) → (Unit) → Prop) (R1 : uEs → uBv → (Unit) → Prop) : List (Alt uEs) := [⟨.exit 0, Unit, Unit, .nil, .nil, R0⟩, ⟨.ret, Int × Unit, Unit, .ji 4 (.nil), .nil, R1⟩]
noncomputable abbrev uA9 := KL [] []
theorem idxwForm (l : List Int) (n i : Int) (N : uEs → Prop) (R0 : uEs → (Unit) → (Unit) → Prop) (R1 : uEs → uBv → (Unit) → Prop) : ((runW PP uA9 100).code none 85 19 (loopBody PP 85 2) (mkT (uQ5.av id (l, (), n, i, ()))) [] (stL false (uQ9.obs id ())) (postL 0 uQ8 (uHi R0 R1) ((l, (), n, i, ()), ()) N)) = ( ifp (!leInt n i) (idxOk i l.length ∧ ∃ x : Int, nth ((natOf i).mul 1) (l.flatMap Ei32.f) = some (AV.int .i32 x) ∧ ifp (!leInt (-131072) x) (True ∧ true = true ∧ R1 ((l, (), n, i, ()), ()) (i, ()) ()) (ifp (!leInt x 131072) (True ∧ true = true ∧ R1 ((l, (), n, i, ()), ()) (i, ()) ()) (True ∧ ∃ l_1, Wv Ei32 l l_1 ∧ true = true ∧ N ((l_1, (), n, wrapF .i64 (i.add 1), ()), ())))) (True ∧ true = true ∧ R0 ((l, (), n, i, ()), ()) () ())) := by kernel_rfl
def uK7 : uEs → Prop := fun ((l, (), n, i, ()), ()) => ∃ k : Nat, i = k ∧ n = l.length ∧ k ≤ l.length ∧ l.length < 9223372036854775807 ∧ (l.take k).any uAs = false
def uTx : uEs → Nat := fun ((l, (), n, i, ()), ()) => l.length - i.toNat
def uQ7 : uEs → (Unit) → (Unit) → Prop := fun ((l, (), n, i, ()), ()) _ _ => l.any uAs = false
def uQ6 : uEs → uBv → (Unit) → Prop := fun ((l, (), n, i, ()), ()) (r, _) _ => 0 ≤ r ∧ l.any uAs = true
noncomputable def uWr : LoopC := loopC 0 uQ8 (uHi uQ7 uQ6) uK7
theorem idxwStep : stepsOk PP uA9 100 85 19 (loopBody PP 85 2) 0 false uQ8 (uHi uQ7 uQ6) uK7 uTx ⟨_, _, uQ5, uQ9, fun x y => (x, y)⟩ := by
 intro x y hz
 obtain ⟨l, _, n, i, _⟩ := x
 obtain _ := y
 refine (idxwForm l n i _ _ _).mpr ?_
 obtain ⟨k, rfl, rfl, hk, hl, ht⟩ := hz
 rw [ifp_lt]
 simp only [natOf_nat]
 split
 ·rename_i h
  have hkl : k < l.length := by simpa using h
  repeat first | refine ⟨Nat.le_refl _, ?_⟩ | rw [ifp_pos (roomy_small (by simp only [Nat.add_eq]; omega) (by decide))] | refine ⟨trivial, ?_⟩ | refine ⟨(rfl : true = true), ?_⟩ | refine ⟨idx_ok (by omega), ?_⟩ | refine ⟨idx_ok0 (by omega), ?_⟩ | refine ⟨_, nth_int (by omega), ?_⟩ | refine ⟨_, _, _, _, _, _, nth_lst (by omega), ?_⟩ | refine ⟨_, _, _, _, _, _, nth_lst0 (by omega), ?_⟩ | refine ⟨_, Wk.refl _, ?_⟩ | rw [ifp_pos rfl]
  rw [ifp_lt]
  split
  ·rename_i h2
   repeat first | refine ⟨Nat.le_refl _, ?_⟩ | rw [ifp_pos (roomy_small (by simp only [Nat.add_eq]; omega) (by decide))] | refine ⟨trivial, ?_⟩ | refine ⟨(rfl : true = true), ?_⟩ | refine ⟨idx_ok (by omega), ?_⟩ | refine ⟨idx_ok0 (by omega), ?_⟩ | refine ⟨_, nth_int (by omega), ?_⟩ | refine ⟨_, _, _, _, _, _, nth_lst (by omega), ?_⟩ | refine ⟨_, _, _, _, _, _, nth_lst0 (by omega), ?_⟩ | refine ⟨_, Wk.refl _, ?_⟩ | rw [ifp_pos rfl]
   exact ⟨by omega, any_of_get hkl (by simp [uAs, h2])⟩
  ·rename_i h2
   rw [ifp_lt]
   split
   ·rename_i h3
    repeat first | refine ⟨Nat.le_refl _, ?_⟩ | rw [ifp_pos (roomy_small (by simp only [Nat.add_eq]; omega) (by decide))] | refine ⟨trivial, ?_⟩ | refine ⟨(rfl : true = true), ?_⟩ | refine ⟨idx_ok (by omega), ?_⟩ | refine ⟨idx_ok0 (by omega), ?_⟩ | refine ⟨_, nth_int (by omega), ?_⟩ | refine ⟨_, _, _, _, _, _, nth_lst (by omega), ?_⟩ | refine ⟨_, _, _, _, _, _, nth_lst0 (by omega), ?_⟩ | refine ⟨_, Wk.refl _, ?_⟩ | rw [ifp_pos rfl]
    exact ⟨by omega, any_of_get hkl (by simp [uAs, h3])⟩
   ·rename_i h3
    repeat first | refine ⟨Nat.le_refl _, ?_⟩ | rw [ifp_pos (roomy_small (by simp only [Nat.add_eq]; omega) (by decide))] | refine ⟨trivial, ?_⟩ | refine ⟨(rfl : true = true), ?_⟩ | refine ⟨idx_ok (by omega), ?_⟩ | refine ⟨idx_ok0 (by omega), ?_⟩ | refine ⟨_, nth_int (by omega), ?_⟩ | refine ⟨_, _, _, _, _, _, nth_lst (by omega), ?_⟩ | refine ⟨_, _, _, _, _, _, nth_lst0 (by omega), ?_⟩ | refine ⟨_, Wk.refl _, ?_⟩ | rw [ifp_pos rfl]
    rw [wsucc (by omega)]
    refine ⟨⟨k + 1, rfl, rfl, hkl, hl, ?_⟩, ?_, fun _ _ h => h, fun _ _ h => h, trivial⟩
    ·rw [any_take_succ hkl, ht]; simp [uAs]; omega
    ·show l.length - (k + 1) < l.length - k; omega
 ·rename_i h
  repeat first | refine ⟨Nat.le_refl _, ?_⟩ | rw [ifp_pos (roomy_small (by simp only [Nat.add_eq]; omega) (by decide))] | refine ⟨trivial, ?_⟩ | refine ⟨(rfl : true = true), ?_⟩ | refine ⟨idx_ok (by omega), ?_⟩ | refine ⟨idx_ok0 (by omega), ?_⟩ | refine ⟨_, nth_int (by omega), ?_⟩ | refine ⟨_, _, _, _, _, _, nth_lst (by omega), ?_⟩ | refine ⟨_, _, _, _, _, _, nth_lst0 (by omega), ?_⟩ | refine ⟨_, Wk.refl _, ?_⟩ | rw [ifp_pos rfl]
  rw [take_all (by simpa using h)] at ht; exact ht
theorem idxwOk : LoopOk PP 85 19 (.loop (loopBody PP 85 2)) (uWr) := loop_ok uTx  mixed (KL_ok (cc_nil)) rfl (steps_cons idxwStep (steps_nil))
noncomputable def cwT : Tel ((List Int) × Unit) := .cons 0 (.lst Ei32) (.nil)
theorem cwFn (v : List Int) (Q : AV → Prop) : (callW PP (runW PP (KL [] [(85, [(2, uWr)])]) 200) 64 (cwT.cells id (v, ())) (stE false) (fun x st => frzW st x Q)) = ( ifp (!leInt 1 (Int.ofNat v.length)) (Q (I64 2)) (ifp (!leInt (Int.ofNat v.length) 1024) (Q (I64 2)) (LoopOk PP 85 19 (loopBody PP 85 2).loop uWr ∧ True ∧ True ∧ ∃ l, Wv Ei32 v l ∧ true = true ∧ uK7 ((l, (), Int.ofNat v.length, 0, ()), ()) ∧ (∀ (c d : Unit), uQ7 ((l, (), Int.ofNat v.length, 0, ()), ()) c d → Q (I64 0)) ∧ (∀ c d, uQ6 ((l, (), Int.ofNat v.length, 0, ()), ()) c d → ifp (leInt 0 c.1) (Q (I64 11)) (Q (I64 0))) ∧ True))) := by kernel_rfl
def uSu : (List Int) × Unit → Prop := fun (v, ()) => True
noncomputable def uX2 : (List Int) × Unit → AV := fun (v, ()) => .int .i64 (cw v)
noncomputable def cwK : CallC := valC cwT uSu uX2
theorem cwVal (v : List Int) (hp : uSu (v, ())) : Val PP 64 (cwT.cells id (v, ())) (uX2 (v, ())) := by
 refine Val.ofF mixed (KL_ok (cc_nil)) (freesC rfl _) (cwFn v) ?_
 rw [ifp_lt, ifp_lt]
 split
 ·rename_i h
  exact tells_int (by rw [cw, if_pos (by simp at h; omega)])
 ·rename_i h
  split
  ·rename_i h2
   exact tells_int (by rw [cw, if_pos (by simp at h2; omega)])
  ·rename_i h2
   simp at h h2
   have hc : ¬ (v.length < 1 ∨ 1024 < v.length) := by omega
   refine ⟨idxwOk, ?_⟩
   repeat first | refine ⟨Nat.le_refl _, ?_⟩ | rw [ifp_pos (roomy_small (by simp only [Nat.add_eq]; omega) (by decide))] | refine ⟨trivial, ?_⟩ | refine ⟨(rfl : true = true), ?_⟩ | refine ⟨idx_ok (by omega), ?_⟩ | refine ⟨idx_ok0 (by omega), ?_⟩ | refine ⟨_, nth_int (by omega), ?_⟩ | refine ⟨_, _, _, _, _, _, nth_lst (by omega), ?_⟩ | refine ⟨_, _, _, _, _, _, nth_lst0 (by omega), ?_⟩ | refine ⟨_, Wk.refl _, ?_⟩ | rw [ifp_pos rfl]
   refine ⟨⟨0, rfl, rfl, by omega, by omega, by simp⟩, fun _ _ hr => ?_, fun c _ hr => ?_, trivial⟩
   ·have hr' : v.any uAs = false := hr
    exact tells_int (by rw [cw, if_neg hc, hr', if_neg (by simp)])
   ·obtain ⟨r, _⟩ := c
    obtain ⟨h0, hr'⟩ := hr
    rw [ifp_le, if_pos h0]
    exact tells_int (by rw [cw, if_neg hc, if_pos hr'])
theorem cwCc : CcOk PP 64 cwK := val_ok rfl (fun ⟨v, _⟩ h => cwVal v h)
abbrev uL0 := (List Int) × Int × Unit
abbrev rcwZ := uL0 × (Unit)
noncomputable def uVh : Tel uL0 := .cons 0 (.lst Ei32) (.ji 3 (.nil))
noncomputable def uVl : BTel (Unit) := .nil
noncomputable def uVk : List (LForm rcwZ) := [⟨_, _, uVh, uVl, fun x y => (x, y)⟩]
noncomputable def uJ2 (R0 : rcwZ → (Unit) → (Unit) → Prop) (R1 : rcwZ → uBv → (Unit) → Prop) : List (Alt rcwZ) := [⟨.exit 0, Unit, Unit, .nil, .nil, R0⟩, ⟨.ret, Int × Unit, Unit, .ji 2 (.nil), .nil, R1⟩]
theorem rcwForm (l : List Int) (i : Int) (N : rcwZ → Prop) (R0 : rcwZ → (Unit) → (Unit) → Prop) (R1 : rcwZ → uBv → (Unit) → Prop) : ((runW PP uA9 100).code none 50 30 (loopBody PP 50 4) (mkT (uVh.av id (l, i, ()))) [] (stL false (uVl.obs id ())) (postL 0 uVk (uJ2 R0 R1) ((l, i, ()), ()) N)) = ( ifp (!leInt (Int.ofNat l.length) i) (idxOk i l.length ∧ ∃ x : Int, nth ((natOf i).mul 1) (l.flatMap Ei32.f) = some (AV.int .i32 x) ∧ ifp (!leInt (-131072) x) (True ∧ true = true ∧ R1 ((l, i, ()), ()) (11, ()) ()) (idxOk i l.length ∧ ∃ x : Int, nth ((natOf i).mul 1) (l.flatMap Ei32.f) = some (AV.int .i32 x) ∧ ifp (!leInt x 131072) (True ∧ true = true ∧ R1 ((l, i, ()), ()) (11, ()) ()) (True ∧ ∃ l_1, Wv Ei32 l l_1 ∧ true = true ∧ N ((l_1, wrapF .i64 (i.add 1), ()), ())))) (True ∧ true = true ∧ R0 ((l, i, ()), ()) () ())) := by kernel_rfl
def uOx : rcwZ → Prop := fun ((l, i, ()), ()) => ∃ k : Nat, i = k ∧ k ≤ l.length ∧ l.length < 9223372036854775807 ∧ (l.take k).any uAs = false
def uXk : rcwZ → Nat := fun ((l, i, ()), ()) => l.length - i.toNat
def uVj : rcwZ → (Unit) → (Unit) → Prop := fun ((l, i, ()), ()) _ _ => l.any uAs = false
def uVi : rcwZ → uBv → (Unit) → Prop := fun ((l, i, ()), ()) (r, _) _ => r = 11 ∧ l.any uAs = true
noncomputable def rcwC : LoopC := loopC 0 uVk (uJ2 uVj uVi) uOx
theorem rcwStep : stepsOk PP uA9 100 50 30 (loopBody PP 50 4) 0 false uVk (uJ2 uVj uVi) uOx uXk ⟨_, _, uVh, uVl, fun x y => (x, y)⟩ := by
 intro x y hz
 obtain ⟨l, i, _⟩ := x
 obtain _ := y
 refine (rcwForm l i _ _ _).mpr ?_
 obtain ⟨k, rfl, hk, hl, ht⟩ := hz
 rw [ifp_lt]
 simp only [natOf_nat]
 split
 ·rename_i h
  have hkl : k < l.length := by simpa using h
  repeat first | refine ⟨Nat.le_refl _, ?_⟩ | rw [ifp_pos (roomy_small (by simp only [Nat.add_eq]; omega) (by decide))] | refine ⟨trivial, ?_⟩ | refine ⟨(rfl : true = true), ?_⟩ | refine ⟨idx_ok (by omega), ?_⟩ | refine ⟨idx_ok0 (by omega), ?_⟩ | refine ⟨_, nth_int (by omega), ?_⟩ | refine ⟨_, _, _, _, _, _, nth_lst (by omega), ?_⟩ | refine ⟨_, _, _, _, _, _, nth_lst0 (by omega), ?_⟩ | refine ⟨_, Wk.refl _, ?_⟩ | rw [ifp_pos rfl]
  rw [ifp_lt]
  split
  ·rename_i h2
   repeat first | refine ⟨Nat.le_refl _, ?_⟩ | rw [ifp_pos (roomy_small (by simp only [Nat.add_eq]; omega) (by decide))] | refine ⟨trivial, ?_⟩ | refine ⟨(rfl : true = true), ?_⟩ | refine ⟨idx_ok (by omega), ?_⟩ | refine ⟨idx_ok0 (by omega), ?_⟩ | refine ⟨_, nth_int (by omega), ?_⟩ | refine ⟨_, _, _, _, _, _, nth_lst (by omega), ?_⟩ | refine ⟨_, _, _, _, _, _, nth_lst0 (by omega), ?_⟩ | refine ⟨_, Wk.refl _, ?_⟩ | rw [ifp_pos rfl]
   exact ⟨rfl, any_of_get hkl (by simp [uAs, h2])⟩
  ·rename_i h2
   repeat first | refine ⟨Nat.le_refl _, ?_⟩ | rw [ifp_pos (roomy_small (by simp only [Nat.add_eq]; omega) (by decide))] | refine ⟨trivial, ?_⟩ | refine ⟨(rfl : true = true), ?_⟩ | refine ⟨idx_ok (by omega), ?_⟩ | refine ⟨idx_ok0 (by omega), ?_⟩ | refine ⟨_, nth_int (by omega), ?_⟩ | refine ⟨_, _, _, _, _, _, nth_lst (by omega), ?_⟩ | refine ⟨_, _, _, _, _, _, nth_lst0 (by omega), ?_⟩ | refine ⟨_, Wk.refl _, ?_⟩ | rw [ifp_pos rfl]
   rw [ifp_lt]
   split
   ·rename_i h3
    repeat first | refine ⟨Nat.le_refl _, ?_⟩ | rw [ifp_pos (roomy_small (by simp only [Nat.add_eq]; omega) (by decide))] | refine ⟨trivial, ?_⟩ | refine ⟨(rfl : true = true), ?_⟩ | refine ⟨idx_ok (by omega), ?_⟩ | refine ⟨idx_ok0 (by omega), ?_⟩ | refine ⟨_, nth_int (by omega), ?_⟩ | refine ⟨_, _, _, _, _, _, nth_lst (by omega), ?_⟩ | refine ⟨_, _, _, _, _, _, nth_lst0 (by omega), ?_⟩ | refine ⟨_, Wk.refl _, ?_⟩ | rw [ifp_pos rfl]
    exact ⟨rfl, any_of_get hkl (by simp [uAs, h3])⟩
   ·rename_i h3
    repeat first | refine ⟨Nat.le_refl _, ?_⟩ | rw [ifp_pos (roomy_small (by simp only [Nat.add_eq]; omega) (by decide))] | refine ⟨trivial, ?_⟩ | refine ⟨(rfl : true = true), ?_⟩ | refine ⟨idx_ok (by omega), ?_⟩ | refine ⟨idx_ok0 (by omega), ?_⟩ | refine ⟨_, nth_int (by omega), ?_⟩ | refine ⟨_, _, _, _, _, _, nth_lst (by omega), ?_⟩ | refine ⟨_, _, _, _, _, _, nth_lst0 (by omega), ?_⟩ | refine ⟨_, Wk.refl _, ?_⟩ | rw [ifp_pos rfl]
    rw [wsucc (by omega)]
    refine ⟨⟨k + 1, rfl, hkl, hl, ?_⟩, ?_, fun _ _ h => h, fun _ _ h => h, trivial⟩
    ·rw [any_take_succ hkl, ht]; simp [uAs]; omega
    ·show l.length - (k + 1) < l.length - k; omega
 ·rename_i h
  repeat first | refine ⟨Nat.le_refl _, ?_⟩ | rw [ifp_pos (roomy_small (by simp only [Nat.add_eq]; omega) (by decide))] | refine ⟨trivial, ?_⟩ | refine ⟨(rfl : true = true), ?_⟩ | refine ⟨idx_ok (by omega), ?_⟩ | refine ⟨idx_ok0 (by omega), ?_⟩ | refine ⟨_, nth_int (by omega), ?_⟩ | refine ⟨_, _, _, _, _, _, nth_lst (by omega), ?_⟩ | refine ⟨_, _, _, _, _, _, nth_lst0 (by omega), ?_⟩ | refine ⟨_, Wk.refl _, ?_⟩ | rw [ifp_pos rfl]
  rw [take_all (by simpa using h)] at ht; exact ht
theorem rcwOk : LoopOk PP 50 30 (.loop (loopBody PP 50 4)) (rcwC) := loop_ok uXk  mixed (KL_ok (cc_nil)) rfl (steps_cons rcwStep (steps_nil))
noncomputable def rcwT : Tel ((List Int) × Unit) := .cons 0 (.lst Ei32) (.nil)
theorem rcwFn (v : List Int) (Q : AV → Prop) : (callW PP (runW PP (KL [] [(50, [(4, rcwC)])]) 200) 50 (rcwT.cells id (v, ())) (stE false) (fun x st => frzW st x Q)) = ( ifp (!leInt 1 (Int.ofNat v.length)) (Q (I64 2)) (ifp (!leInt (Int.ofNat v.length) 1024) (Q (I64 2)) (LoopOk PP 50 30 (loopBody PP 50 4).loop rcwC ∧ True ∧ True ∧ ∃ l, Wv Ei32 v l ∧ true = true ∧ uOx ((l, 0, ()), ()) ∧ (∀ (c d : Unit), uVj ((l, 0, ()), ()) c d → Q (I64 0)) ∧ (∀ c d, uVi ((l, 0, ()), ()) c d → Q (I64 c.1)) ∧ True))) := by kernel_rfl
def uLy : (List Int) × Unit → Prop := fun (v, ()) => True
noncomputable def uS8 : (List Int) × Unit → AV := fun (v, ()) => .int .i64 (cw v)
noncomputable def rcwK : CallC := valC rcwT uLy uS8
theorem rcwVal (v : List Int) (hp : uLy (v, ())) : Val PP 50 (rcwT.cells id (v, ())) (uS8 (v, ())) := by
 refine Val.ofF mixed (KL_ok (cc_nil)) (freesC rfl _) (rcwFn v) ?_
 rw [ifp_lt, ifp_lt]
 split
 ·rename_i h
  exact tells_int (by rw [cw, if_pos (by simp at h; omega)])
 ·rename_i h
  split
  ·rename_i h2
   exact tells_int (by rw [cw, if_pos (by simp at h2; omega)])
  ·rename_i h2
   simp at h h2
   have hc : ¬ (v.length < 1 ∨ 1024 < v.length) := by omega
   refine ⟨rcwOk, ?_⟩
   repeat first | refine ⟨Nat.le_refl _, ?_⟩ | rw [ifp_pos (roomy_small (by simp only [Nat.add_eq]; omega) (by decide))] | refine ⟨trivial, ?_⟩ | refine ⟨(rfl : true = true), ?_⟩ | refine ⟨idx_ok (by omega), ?_⟩ | refine ⟨idx_ok0 (by omega), ?_⟩ | refine ⟨_, nth_int (by omega), ?_⟩ | refine ⟨_, _, _, _, _, _, nth_lst (by omega), ?_⟩ | refine ⟨_, _, _, _, _, _, nth_lst0 (by omega), ?_⟩ | refine ⟨_, Wk.refl _, ?_⟩ | rw [ifp_pos rfl]
   refine ⟨⟨0, rfl, by omega, by omega, by simp⟩, fun _ _ hr => ?_, fun c _ hr => ?_, trivial⟩
   ·have hr' : v.any uAs = false := hr
    exact tells_int (by rw [cw, if_neg hc, hr', if_neg (by simp)])
   ·obtain ⟨r, _⟩ := c
    obtain ⟨rfl, hr'⟩ := hr
    exact tells_int (by rw [cw, if_neg hc, if_pos hr'])
theorem rcwCc : CcOk PP 50 rcwK := val_ok rfl (fun ⟨v, _⟩ h => rcwVal v h)
abbrev uL1 := (List Int) × (List Int) × Unit
noncomputable def uVr : Tel uL1 := .cons 0 (.lst Ei32) (.cons 1 (.lst Ei32) (.nil))
theorem pairFn (a b : List Int) (Q : AV → Prop) : (callW PP (runW PP (KL [(64, cwK)] []) 200) 58 (uVr.cells id (a, b, ())) (stE false) (fun x st => frzW st x Q)) = ( idxOk 0 2 ∧ ∃ l, Wv Ei32 a l ∧ uSu (l, ()) ∧ ifp (!eqInt (cw l) 0) (Q (I64 (cw l))) (idxOk (wrapF .i64 (Int.add 0 1)) 2 ∧ ∃ l, Wv Ei32 b l ∧ uSu (l, ()) ∧ ifp (!eqInt (cw l) 0) (Q (I64 (cw l))) (ifp (!eqInt (Int.ofNat a.length) (Int.ofNat b.length)) (Q (I64 2)) (Q (I64 0))))) := by kernel_rfl
def uKl : (List Int) × (List Int) × Unit → Prop := fun (a, b, ()) => True
noncomputable def uPv : (List Int) × (List Int) × Unit → AV := fun (a, b, ()) => .int .i64 (uA7 a b)
noncomputable def uXn : CallC := valC uVr uKl uPv
theorem pairVal (a : List Int) (b : List Int) (hp : uKl (a, b, ())) : Val PP 58 (uVr.cells id (a, b, ())) (uPv (a, b, ())) := by
 refine Val.ofF mixed (KL_ok (cc_cons cwCc (cc_nil))) (freesC rfl _) (pairFn a b) ?_
 refine ⟨⟨by decide, by decide⟩, ?_⟩
 repeat first | refine ⟨Nat.le_refl _, ?_⟩ | rw [ifp_pos (roomy_small (by simp only [Nat.add_eq]; omega) (by decide))] | refine ⟨trivial, ?_⟩ | refine ⟨(rfl : true = true), ?_⟩ | refine ⟨idx_ok (by omega), ?_⟩ | refine ⟨idx_ok0 (by omega), ?_⟩ | refine ⟨_, nth_int (by omega), ?_⟩ | refine ⟨_, _, _, _, _, _, nth_lst (by omega), ?_⟩ | refine ⟨_, _, _, _, _, _, nth_lst0 (by omega), ?_⟩ | refine ⟨_, Wk.refl _, ?_⟩ | rw [ifp_pos rfl]
 rw [ifp_ne]
 split
 ·rename_i h
  refine ⟨⟨by decide, by decide⟩, ?_⟩
  repeat first | refine ⟨Nat.le_refl _, ?_⟩ | rw [ifp_pos (roomy_small (by simp only [Nat.add_eq]; omega) (by decide))] | refine ⟨trivial, ?_⟩ | refine ⟨(rfl : true = true), ?_⟩ | refine ⟨idx_ok (by omega), ?_⟩ | refine ⟨idx_ok0 (by omega), ?_⟩ | refine ⟨_, nth_int (by omega), ?_⟩ | refine ⟨_, _, _, _, _, _, nth_lst (by omega), ?_⟩ | refine ⟨_, _, _, _, _, _, nth_lst0 (by omega), ?_⟩ | refine ⟨_, Wk.refl _, ?_⟩ | rw [ifp_pos rfl]
  rw [ifp_ne, ifp_ne]
  split
  ·rename_i h2
   split
   ·rename_i h3; exact tells_int (by simp at h3; simp [uA7, h, h2]; omega)
   ·rename_i h3; exact tells_int (by simp at h3; simp [uA7, h, h2]; omega)
  ·rename_i h2; exact tells_int (by simp [uA7, h, h2])
 ·rename_i h; exact tells_int (by simp [uA7, h])
theorem pairCc : CcOk PP 58 uXn := val_ok rfl (fun ⟨a, ⟨b, _⟩⟩ h => pairVal a b h)
noncomputable def uJ3 : Tel uL1 := .cons 0 (.lst Ei32) (.cons 1 (.lst Ei32) (.nil))
theorem rboth3Fn (a b : List Int) (Q : AV → Prop) : (callW PP (runW PP (KL [(50, rcwK)] []) 200) 31 (uJ3.cells id (a, b, ())) (stE false) (fun x st => frzW st x Q)) = ( ∃ l, Wv Ei32 a l ∧ uLy (l, ()) ∧ ifp (eqInt (cw l) 0) (∃ l, Wv Ei32 b l ∧ uLy (l, ()) ∧ ifp (eqInt (cw l) 0) (ifp (!eqInt (Int.ofNat a.length) (Int.ofNat b.length)) (Q (I64 2)) (Q (I64 (cw l)))) (Q (I64 (cw l)))) (ifp (eqInt (cw l) 0) (ifp (!eqInt (Int.ofNat a.length) (Int.ofNat b.length)) (Q (I64 2)) (Q (I64 (cw l)))) (Q (I64 (cw l))))) := by kernel_rfl
def uEa : (List Int) × (List Int) × Unit → Prop := fun (a, b, ()) => True
noncomputable def uH1 : (List Int) × (List Int) × Unit → AV := fun (a, b, ()) => .int .i64 (uA7 a b)
noncomputable def uO0 : CallC := valC uJ3 uEa uH1
theorem rboth3Val (a : List Int) (b : List Int) (hp : uEa (a, b, ())) : Val PP 31 (uJ3.cells id (a, b, ())) (uH1 (a, b, ())) := by
 refine Val.ofF mixed (KL_ok (cc_cons rcwCc (cc_nil))) (freesC rfl _) (rboth3Fn a b) ?_
 repeat first | refine ⟨Nat.le_refl _, ?_⟩ | rw [ifp_pos (roomy_small (by simp only [Nat.add_eq]; omega) (by decide))] | refine ⟨trivial, ?_⟩ | refine ⟨(rfl : true = true), ?_⟩ | refine ⟨idx_ok (by omega), ?_⟩ | refine ⟨idx_ok0 (by omega), ?_⟩ | refine ⟨_, nth_int (by omega), ?_⟩ | refine ⟨_, _, _, _, _, _, nth_lst (by omega), ?_⟩ | refine ⟨_, _, _, _, _, _, nth_lst0 (by omega), ?_⟩ | refine ⟨_, Wk.refl _, ?_⟩ | rw [ifp_pos rfl]
 rw [ifp_eq]
 split
 ·rename_i h
  repeat first | refine ⟨Nat.le_refl _, ?_⟩ | rw [ifp_pos (roomy_small (by simp only [Nat.add_eq]; omega) (by decide))] | refine ⟨trivial, ?_⟩ | refine ⟨(rfl : true = true), ?_⟩ | refine ⟨idx_ok (by omega), ?_⟩ | refine ⟨idx_ok0 (by omega), ?_⟩ | refine ⟨_, nth_int (by omega), ?_⟩ | refine ⟨_, _, _, _, _, _, nth_lst (by omega), ?_⟩ | refine ⟨_, _, _, _, _, _, nth_lst0 (by omega), ?_⟩ | refine ⟨_, Wk.refl _, ?_⟩ | rw [ifp_pos rfl]
  rw [ifp_eq, ifp_ne]
  split
  ·rename_i h2
   split
   ·rename_i h3; exact tells_int (by simp at h3; simp [uA7, h, h2]; omega)
   ·rename_i h3; exact tells_int (by simp at h3; simp [uA7, h, h2]; omega)
  ·rename_i h2; exact tells_int (by simp [uA7, h, h2])
 ·rename_i h
  rw [ifp_eq, if_neg h]
  exact tells_int (by simp [uA7, h])
theorem rboth3Cc : CcOk PP 31 uO0 := val_ok rfl (fun ⟨a, ⟨b, _⟩⟩ h => rboth3Val a b h)
def wide (l : List Int) : Prop := ∀ x ∈ l, -131072 ≤ x ∧ x ≤ 131072
theorem wide_of_any {l : List Int} (h : l.any uAs = false) : wide l := fun x hx => by
 have := List.any_eq_false.1 h x hx
 simp [uAs] at this; omega
theorem uC5 {v : List Int} (h : cw v = 0) : 1 ≤ v.length ∧ v.length ≤ 1024 ∧ wide v := by
 unfold cw at h
 split at h
 ·cases h
 ·split at h
  ·cases h
  ·rename_i h1 h2; exact ⟨by omega, by omega, wide_of_any (by simpa using h2)⟩
theorem uEg {a b : List Int} (h : uA7 a b = 0) : cw a = 0 ∧ cw b = 0 ∧ a.length = b.length := by
 unfold uA7 at h
 split at h
 ·rename_i h1; exact absurd h h1
 ·split at h
  ·rename_i h1; exact absurd h h1
  ·split at h
   ·cases h
   ·rename_i h1 h2 h3; exact ⟨by simpa using h1, by simpa using h2, by simpa using h3⟩
theorem uLn {a b : List Int} {i : Nat} (ha : i < a.length) (hb : i < b.length) : sqs (a.drop i) (b.drop i) = (a[i] - b[i]) * (a[i] - b[i]) + sqs (a.drop (i + 1)) (b.drop (i + 1)) := by
 rw [List.drop_eq_getElem_cons ha, List.drop_eq_getElem_cons hb]; rfl
theorem uXc {x y : Int} (hx : -131072 ≤ x ∧ x ≤ 131072) (hy : -131072 ≤ y ∧ y ≤ 131072) : 0 ≤ (x - y) * (x - y) ∧ (x - y) * (x - y) ≤ 68719476736 := by
 have h1 : -262144 ≤ x - y ∧ x - y ≤ 262144 := by omega
 generalize x - y = d at h1
 refine ⟨?_, ?_⟩
 ·rcases Int.le_total 0 d with h | h
  ·exact Int.mul_nonneg h h
  ·exact Int.mul_nonneg_of_nonpos_of_nonpos h h
 ·have h2 : d * d ≤ 262144 * 262144 := by
   rcases Int.le_total 0 d with h | h
   ·exact Int.mul_le_mul h1.2 h1.2 h (by omega)
   ·have : d * d = (-d) * (-d) := by rw [Int.neg_mul_neg]
    rw [this]
    exact Int.mul_le_mul (by omega) (by omega) (by omega) (by omega)
  omega
theorem uN5 {x y s : Int} {k : Nat} (hx : -131072 ≤ x ∧ x ≤ 131072) (hy : -131072 ≤ y ∧ y ≤ 131072) (h0 : 0 ≤ s) (h1 : s ≤ k * 68719476736) (hk : k < 1024) :
  wrapF .i64 (Int.add s (wrapF .i64 (Int.mul (wrapF .i64 (Int.sub (wrapF .i64 x) (wrapF .i64 y))) (wrapF .i64 (Int.sub (wrapF .i64 x) (wrapF .i64 y)))))) = s + (x - y) * (x - y) ∧ 0 ≤ s + (x - y) * (x - y) ∧ s + (x - y) * (x - y) ≤ (k + 1 : Nat) * 68719476736 := by
 have q := uXc hx hy
 have e2 : wrapF .i64 x = x := w64 (by omega) (by omega)
 have e3 : wrapF .i64 y = y := w64 (by omega) (by omega)
 have e4 : wrapF .i64 (Int.sub x y) = x - y := wsub (by omega) (by omega)
 have e5 : wrapF .i64 (Int.mul (x - y) (x - y)) = (x - y) * (x - y) := Det.wmul (by omega) (by omega)
 have e6 : wrapF .i64 (Int.add s ((x - y) * (x - y))) = s + (x - y) * (x - y) := wadd (by omega) (by omega)
 rw [e2, e3, e4, e5, e6]
 exact ⟨rfl, by omega, by omega⟩
abbrev uIt := (Int × Int × (List Int) × (List Int) × Int × Unit) × (Unit)
noncomputable def uRu : Tel (Int × Int × (List Int) × (List Int) × Int × Unit) := .ji 19 (.ji 18 (.cons 17 (.lst Ei32) (.cons 1 (.lst Ei32) (.ji 7 (.nil)))))
noncomputable def uRy : BTel (Unit) := .nil
noncomputable def uRx : List (LForm uIt) := [⟨_, _, uRu, uRy, fun x y => (x, y)⟩]
noncomputable def uHq (R0 : uIt → uBv → (Unit) → Prop) : List (Alt uIt) := [⟨.exit 0, Int × Unit, Unit, .ji 7 (.nil), .nil, R0⟩]
theorem distForm (i n : Int) (a b : List Int) (s : Int) (N : uIt → Prop) (R0 : uIt → uBv → (Unit) → Prop) : ((runW PP uA9 100).code none 40 39 (loopBody PP 40 6) (mkT (uRu.av id (i, n, a, b, s, ()))) [] (stL false (uRy.obs id ())) (postL 0 uRx (uHq R0) ((i, n, a, b, s, ()), ()) N)) = ( ifp (!leInt n i) (idxOk i a.length ∧ ∃ x : Int, nth ((natOf i).mul 1) (a.flatMap Ei32.f) = some (AV.int .i32 x) ∧ idxOk i b.length ∧ ∃ x_1 : Int, nth ((natOf i).mul 1) (b.flatMap Ei32.f) = some (AV.int .i32 x_1) ∧ True ∧ ∃ l, Wv Ei32 a l ∧ ∃ l_1, Wv Ei32 b l_1 ∧ true = true ∧ N ((wrapF .i64 (i.add 1), n, l, l_1, wrapF .i64 (s.add (wrapF .i64 ((wrapF .i64 ((wrapF .i64 x).sub (wrapF .i64 x_1))).mul (wrapF .i64 ((wrapF .i64 x).sub (wrapF .i64 x_1)))))), ()), ())) (True ∧ true = true ∧ R0 ((i, n, a, b, s, ()), ()) (s, ()) ())) := by kernel_rfl
def uLe : uIt → Prop := fun ((i, n, a, b, s, ()), ()) => ∃ k : Nat, i = k ∧ n = a.length ∧ k ≤ a.length ∧ a.length ≤ 1024 ∧ a.length = b.length ∧ wide a ∧ wide b ∧ 0 ≤ s ∧ s ≤ k * 68719476736
def uT3 : uIt → Nat := fun ((i, n, a, b, s, ()), ()) => a.length - i.toNat
def uRw : uIt → uBv → (Unit) → Prop := fun ((i, n, a, b, s, ()), ()) (r, _) _ => r = s + sqs (a.drop i.toNat) (b.drop i.toNat)
noncomputable def uW2 : LoopC := loopC 0 uRx (uHq uRw) uLe
theorem distStep : stepsOk PP uA9 100 40 39 (loopBody PP 40 6) 0 false uRx (uHq uRw) uLe uT3 ⟨_, _, uRu, uRy, fun x y => (x, y)⟩ := by
 intro x y hz
 obtain ⟨i, n, a, b, s, _⟩ := x
 obtain _ := y
 refine (distForm i n a b s _ _).mpr ?_
 obtain ⟨k, rfl, rfl, hk, hl, hab, wa, wb, s0, s1⟩ := hz
 rw [ifp_lt]
 simp only [natOf_nat]
 split
 ·rename_i h
  have hka : k < a.length := by simpa using h
  have hkb : k < b.length := by omega
  repeat first | refine ⟨Nat.le_refl _, ?_⟩ | rw [ifp_pos (roomy_small (by simp only [Nat.add_eq]; omega) (by decide))] | refine ⟨trivial, ?_⟩ | refine ⟨(rfl : true = true), ?_⟩ | refine ⟨idx_ok (by omega), ?_⟩ | refine ⟨idx_ok0 (by omega), ?_⟩ | refine ⟨_, nth_int (by omega), ?_⟩ | refine ⟨_, _, _, _, _, _, nth_lst (by omega), ?_⟩ | refine ⟨_, _, _, _, _, _, nth_lst0 (by omega), ?_⟩ | refine ⟨_, Wk.refl _, ?_⟩ | rw [ifp_pos rfl]
  obtain ⟨e1, e2, e3⟩ := uN5 (wa _ (List.getElem_mem hka)) (wb _ (List.getElem_mem hkb)) s0 s1 (by omega)
  rw [wsucc (by omega), e1]
  refine ⟨⟨k + 1, rfl, rfl, hka, hl, hab, wa, wb, e2, e3⟩, ?_, fun c _ hr => ?_, trivial⟩
  ·show a.length - (k + 1) < a.length - k; omega
  ·obtain ⟨r, _⟩ := c
   have hr' : r = s + (a[k] - b[k]) * (a[k] - b[k]) + sqs (a.drop (k + 1)) (b.drop (k + 1)) := hr
   show r = s + sqs (a.drop k) (b.drop k)
   rw [hr', uLn hka hkb]; omega
 ·rename_i h
  repeat first | refine ⟨Nat.le_refl _, ?_⟩ | rw [ifp_pos (roomy_small (by simp only [Nat.add_eq]; omega) (by decide))] | refine ⟨trivial, ?_⟩ | refine ⟨(rfl : true = true), ?_⟩ | refine ⟨idx_ok (by omega), ?_⟩ | refine ⟨idx_ok0 (by omega), ?_⟩ | refine ⟨_, nth_int (by omega), ?_⟩ | refine ⟨_, _, _, _, _, _, nth_lst (by omega), ?_⟩ | refine ⟨_, _, _, _, _, _, nth_lst0 (by omega), ?_⟩ | refine ⟨_, Wk.refl _, ?_⟩ | rw [ifp_pos rfl]
  show s = s + sqs (a.drop k) (b.drop k)
  rw [List.drop_of_length_le (by simpa using h)]; simp [sqs]
theorem distOk : LoopOk PP 40 39 (.loop (loopBody PP 40 6)) (uW2) := loop_ok uT3  mixed (KL_ok (cc_nil)) rfl (steps_cons distStep (steps_nil))
noncomputable def uW1 : Tel uL1 := .cons 0 (.lst Ei32) (.cons 1 (.lst Ei32) (.nil))
theorem distFn (a b : List Int) (Q : AV → Prop) : (callW PP (runW PP (KL [(58, uXn)] [(40, [(6, uW2)])]) 200) 40 (uW1.cells id (a, b, ())) (stE false) (fun x st => frzW st x Q)) = ( ∃ l, Wv Ei32 a l ∧ ∃ l_1, Wv Ei32 b l_1 ∧ uKl (l, l_1, ()) ∧ ifp (!eqInt (uA7 l l_1) 0) (Q (AV.tuple [I64 0, I64 (uA7 l l_1)])) (LoopOk PP 40 39 (loopBody PP 40 6).loop uW2 ∧ True ∧ True ∧ ∃ l, Wv Ei32 a l ∧ ∃ l_2, Wv Ei32 b l_2 ∧ true = true ∧ uLe ((0, Int.ofNat a.length, l, l_2, 0, ()), ()) ∧ (∀ c d, uRw ((0, Int.ofNat a.length, l, l_2, 0, ()), ()) c d → Q (AV.tuple [I64 c.1, I64 0])) ∧ True)) := by kernel_rfl
def uHp : (List Int) × (List Int) × Unit → Prop := fun (a, b, ()) => True
noncomputable def uRv : (List Int) × (List Int) × Unit → AV := fun (a, b, ()) => .tuple [.int .i64 (uA0 a b), .int .i64 (uA7 a b)]
noncomputable def uX1 : CallC := valC uW1 uHp uRv
theorem distVal (a : List Int) (b : List Int) (hp : uHp (a, b, ())) : Val PP 40 (uW1.cells id (a, b, ())) (uRv (a, b, ())) := by
 refine Val.ofF mixed (KL_ok (cc_cons pairCc (cc_nil))) (freesC rfl _) (distFn a b) ?_
 repeat first | refine ⟨Nat.le_refl _, ?_⟩ | rw [ifp_pos (roomy_small (by simp only [Nat.add_eq]; omega) (by decide))] | refine ⟨trivial, ?_⟩ | refine ⟨(rfl : true = true), ?_⟩ | refine ⟨idx_ok (by omega), ?_⟩ | refine ⟨idx_ok0 (by omega), ?_⟩ | refine ⟨_, nth_int (by omega), ?_⟩ | refine ⟨_, _, _, _, _, _, nth_lst (by omega), ?_⟩ | refine ⟨_, _, _, _, _, _, nth_lst0 (by omega), ?_⟩ | refine ⟨_, Wk.refl _, ?_⟩ | rw [ifp_pos rfl]
 rw [ifp_ne]
 split
 ·rename_i h
  obtain ⟨ca, cb, hab⟩ := uEg h
  obtain ⟨a1, a2, wa⟩ := uC5 ca
  obtain ⟨b1, b2, wb⟩ := uC5 cb
  refine ⟨distOk, ?_⟩
  repeat first | refine ⟨Nat.le_refl _, ?_⟩ | rw [ifp_pos (roomy_small (by simp only [Nat.add_eq]; omega) (by decide))] | refine ⟨trivial, ?_⟩ | refine ⟨(rfl : true = true), ?_⟩ | refine ⟨idx_ok (by omega), ?_⟩ | refine ⟨idx_ok0 (by omega), ?_⟩ | refine ⟨_, nth_int (by omega), ?_⟩ | refine ⟨_, _, _, _, _, _, nth_lst (by omega), ?_⟩ | refine ⟨_, _, _, _, _, _, nth_lst0 (by omega), ?_⟩ | refine ⟨_, Wk.refl _, ?_⟩ | rw [ifp_pos rfl]
  refine ⟨⟨0, rfl, rfl, by omega, a2, hab, wa, wb, by omega, by omega⟩, fun c _ hr => ?_, trivial⟩
  obtain ⟨r, _⟩ := c
  have hr' : r = 0 + sqs (a.drop 0) (b.drop 0) := hr
  exact tells_tuple ⟨tells_int (by show r = _; rw [hr', uA0, if_pos h]; simp), tells_int (by rw [h]), trivial⟩
 ·rename_i h
  exact tells_tuple ⟨tells_int (by rw [uA0, if_neg h]), tells_int rfl, trivial⟩
theorem uT4 : CcOk PP 40 uX1 := val_ok rfl (fun ⟨a, ⟨b, _⟩⟩ h => distVal a b h)
abbrev uDa := (Int × (List Int) × (List Int) × Int × Unit) × (Unit)
noncomputable def uJy : Tel (Int × (List Int) × (List Int) × Int × Unit) := .ji 8 (.cons 0 (.lst Ei32) (.cons 1 (.lst Ei32) (.ji 7 (.nil))))
noncomputable def uJ1 : BTel (Unit) := .nil
noncomputable def uJ0 : List (LForm uDa) := [⟨_, _, uJy, uJ1, fun x y => (x, y)⟩]
noncomputable def uD9 (R0 : uDa → uBv → (Unit) → Prop) : List (Alt uDa) := [⟨.exit 0, Int × Unit, Unit, .ji 7 (.nil), .nil, R0⟩]
theorem rdistForm (i : Int) (a b : List Int) (s : Int) (N : uDa → Prop) (R0 : uDa → uBv → (Unit) → Prop) : ((runW PP uA9 100).code none 17 39 (loopBody PP 17 6) (mkT (uJy.av id (i, a, b, s, ()))) [] (stL false (uJ1.obs id ())) (postL 0 uJ0 (uD9 R0) ((i, a, b, s, ()), ()) N)) = ( ifp (!leInt (Int.ofNat a.length) i) (idxOk i a.length ∧ ∃ x : Int, nth ((natOf i).mul 1) (a.flatMap Ei32.f) = some (AV.int .i32 x) ∧ idxOk i b.length ∧ ∃ x_1 : Int, nth ((natOf i).mul 1) (b.flatMap Ei32.f) = some (AV.int .i32 x_1) ∧ True ∧ True ∧ True ∧ True ∧ True ∧ ∃ l, Wv Ei32 a l ∧ ∃ l_1, Wv Ei32 b l_1 ∧ true = true ∧ N ((wrapF .i64 (i.add 1), l, l_1, wrapF .i64 (s.add (wrapF .i64 ((wrapF .i64 ((wrapF .i64 x).sub (wrapF .i64 x_1))).mul (wrapF .i64 ((wrapF .i64 x).sub (wrapF .i64 x_1)))))), ()), ())) (True ∧ true = true ∧ R0 ((i, a, b, s, ()), ()) (s, ()) ())) := by kernel_rfl
def uGa : uDa → Prop := fun ((i, a, b, s, ()), ()) => ∃ k : Nat, i = k ∧ k ≤ a.length ∧ a.length ≤ 1024 ∧ a.length = b.length ∧ wide a ∧ wide b ∧ 0 ≤ s ∧ s ≤ k * 68719476736
def uOt : uDa → Nat := fun ((i, a, b, s, ()), ()) => a.length - i.toNat
def uJz : uDa → uBv → (Unit) → Prop := fun ((i, a, b, s, ()), ()) (r, _) _ => r = s + sqs (a.drop i.toNat) (b.drop i.toNat)
noncomputable def uOu : LoopC := loopC 0 uJ0 (uD9 uJz) uGa
theorem rdistStep : stepsOk PP uA9 100 17 39 (loopBody PP 17 6) 0 false uJ0 (uD9 uJz) uGa uOt ⟨_, _, uJy, uJ1, fun x y => (x, y)⟩ := by
 intro x y hz
 obtain ⟨i, a, b, s, _⟩ := x
 obtain _ := y
 refine (rdistForm i a b s _ _).mpr ?_
 obtain ⟨k, rfl, hk, hl, hab, wa, wb, s0, s1⟩ := hz
 rw [ifp_lt]
 simp only [natOf_nat]
 split
 ·rename_i h
  have hka : k < a.length := by simpa using h
  have hkb : k < b.length := by omega
  repeat first | refine ⟨Nat.le_refl _, ?_⟩ | rw [ifp_pos (roomy_small (by simp only [Nat.add_eq]; omega) (by decide))] | refine ⟨trivial, ?_⟩ | refine ⟨(rfl : true = true), ?_⟩ | refine ⟨idx_ok (by omega), ?_⟩ | refine ⟨idx_ok0 (by omega), ?_⟩ | refine ⟨_, nth_int (by omega), ?_⟩ | refine ⟨_, _, _, _, _, _, nth_lst (by omega), ?_⟩ | refine ⟨_, _, _, _, _, _, nth_lst0 (by omega), ?_⟩ | refine ⟨_, Wk.refl _, ?_⟩ | rw [ifp_pos rfl]
  obtain ⟨e1, e2, e3⟩ := uN5 (wa _ (List.getElem_mem hka)) (wb _ (List.getElem_mem hkb)) s0 s1 (by omega)
  rw [wsucc (by omega), e1]
  refine ⟨⟨k + 1, rfl, hka, hl, hab, wa, wb, e2, e3⟩, ?_, fun c _ hr => ?_, trivial⟩
  ·show a.length - (k + 1) < a.length - k; omega
  ·obtain ⟨r, _⟩ := c
   have hr' : r = s + (a[k] - b[k]) * (a[k] - b[k]) + sqs (a.drop (k + 1)) (b.drop (k + 1)) := hr
   show r = s + sqs (a.drop k) (b.drop k)
   rw [hr', uLn hka hkb]; omega
 ·rename_i h
  repeat first | refine ⟨Nat.le_refl _, ?_⟩ | rw [ifp_pos (roomy_small (by simp only [Nat.add_eq]; omega) (by decide))] | refine ⟨trivial, ?_⟩ | refine ⟨(rfl : true = true), ?_⟩ | refine ⟨idx_ok (by omega), ?_⟩ | refine ⟨idx_ok0 (by omega), ?_⟩ | refine ⟨_, nth_int (by omega), ?_⟩ | refine ⟨_, _, _, _, _, _, nth_lst (by omega), ?_⟩ | refine ⟨_, _, _, _, _, _, nth_lst0 (by omega), ?_⟩ | refine ⟨_, Wk.refl _, ?_⟩ | rw [ifp_pos rfl]
  show s = s + sqs (a.drop k) (b.drop k)
  rw [List.drop_of_length_le (by simpa using h)]; simp [sqs]
theorem rdistOk : LoopOk PP 17 39 (.loop (loopBody PP 17 6)) (uOu) := loop_ok uOt  mixed (KL_ok (cc_nil)) rfl (steps_cons rdistStep (steps_nil))
noncomputable def uOs : Tel uL1 := .cons 0 (.lst Ei32) (.cons 1 (.lst Ei32) (.nil))
theorem rdistFn (a b : List Int) (Q : AV → Prop) : (callW PP (runW PP (KL [(31, uO0)] [(17, [(6, uOu)])]) 200) 17 (uOs.cells id (a, b, ())) (stE false) (fun x st => frzW st x Q)) = ( ∃ l, Wv Ei32 a l ∧ ∃ l_1, Wv Ei32 b l_1 ∧ uEa (l, l_1, ()) ∧ ifp (!eqInt (uA7 l l_1) 0) (Q (AV.tuple [I64 0, I64 (uA7 l l_1)])) (LoopOk PP 17 39 (loopBody PP 17 6).loop uOu ∧ True ∧ True ∧ ∃ l, Wv Ei32 a l ∧ ∃ l_2, Wv Ei32 b l_2 ∧ true = true ∧ uGa ((0, l, l_2, 0, ()), ()) ∧ (∀ c d, uJz ((0, l, l_2, 0, ()), ()) c d → Q (AV.tuple [I64 c.1, I64 0])) ∧ True)) := by kernel_rfl
def uDo : (List Int) × (List Int) × Unit → Prop := fun (a, b, ()) => True
noncomputable def uLw : (List Int) × (List Int) × Unit → AV := fun (a, b, ()) => .tuple [.int .i64 (uA0 a b), .int .i64 (uA7 a b)]
noncomputable def uS7 : CallC := valC uOs uDo uLw
theorem rdistVal (a : List Int) (b : List Int) (hp : uDo (a, b, ())) : Val PP 17 (uOs.cells id (a, b, ())) (uLw (a, b, ())) := by
 refine Val.ofF mixed (KL_ok (cc_cons rboth3Cc (cc_nil))) (freesC rfl _) (rdistFn a b) ?_
 repeat first | refine ⟨Nat.le_refl _, ?_⟩ | rw [ifp_pos (roomy_small (by simp only [Nat.add_eq]; omega) (by decide))] | refine ⟨trivial, ?_⟩ | refine ⟨(rfl : true = true), ?_⟩ | refine ⟨idx_ok (by omega), ?_⟩ | refine ⟨idx_ok0 (by omega), ?_⟩ | refine ⟨_, nth_int (by omega), ?_⟩ | refine ⟨_, _, _, _, _, _, nth_lst (by omega), ?_⟩ | refine ⟨_, _, _, _, _, _, nth_lst0 (by omega), ?_⟩ | refine ⟨_, Wk.refl _, ?_⟩ | rw [ifp_pos rfl]
 rw [ifp_ne]
 split
 ·rename_i h
  obtain ⟨ca, cb, hab⟩ := uEg h
  obtain ⟨a1, a2, wa⟩ := uC5 ca
  obtain ⟨b1, b2, wb⟩ := uC5 cb
  refine ⟨rdistOk, ?_⟩
  repeat first | refine ⟨Nat.le_refl _, ?_⟩ | rw [ifp_pos (roomy_small (by simp only [Nat.add_eq]; omega) (by decide))] | refine ⟨trivial, ?_⟩ | refine ⟨(rfl : true = true), ?_⟩ | refine ⟨idx_ok (by omega), ?_⟩ | refine ⟨idx_ok0 (by omega), ?_⟩ | refine ⟨_, nth_int (by omega), ?_⟩ | refine ⟨_, _, _, _, _, _, nth_lst (by omega), ?_⟩ | refine ⟨_, _, _, _, _, _, nth_lst0 (by omega), ?_⟩ | refine ⟨_, Wk.refl _, ?_⟩ | rw [ifp_pos rfl]
  refine ⟨⟨0, rfl, by omega, a2, hab, wa, wb, by omega, by omega⟩, fun c _ hr => ?_, trivial⟩
  obtain ⟨r, _⟩ := c
  have hr' : r = 0 + sqs (a.drop 0) (b.drop 0) := hr
  exact tells_tuple ⟨tells_int (by show r = _; rw [hr', uA0, if_pos h]; simp), tells_int (by rw [h]), trivial⟩
 ·rename_i h
  exact tells_tuple ⟨tells_int (by rw [uA0, if_neg h]), tells_int rfl, trivial⟩
theorem rdistCc : CcOk PP 17 uS7 := val_ok rfl (fun ⟨a, ⟨b, _⟩⟩ h => rdistVal a b h)
def vchk (v : List Int) (d : Int) : Int := if d < 1 ∨ 1024 < d ∨ (v.length : Int) ≠ d then 2 else 0
abbrev Ei16 : Enc Int := Enc.int .i16
abbrev Eu64 : Enc Int := Enc.int .u64
noncomputable def uAa (v : List Int) : List Int := v.map (wrapF .i32)
theorem uCo (v : List Int) : (uAa v).length = v.length := List.length_map ..
theorem uCn {v : List Int} {k : Nat} (h : k < v.length) : uAa (v.take (k + 1)) = uAa (v.take k) ++ [wrapF .i32 v[k]] := by
 rw [← List.take_append_getElem h, uAa, List.map_append]; rfl
noncomputable def chkT : Tel uL0 := .cons 0 (.lst Ei16) (.ji 1 (.nil))
theorem chkFn (v : List Int) (d : Int) (Q : AV → Prop) : (callW PP (runW PP uA9 200) 27 (chkT.cells id (v, d, ())) (stE false) (fun x st => frzW st x Q)) = ( ifp (!leInt 1 d) (Q (I64 2)) (ifp (!leInt d 1024) (Q (I64 2)) (ifp (!eqInt (Int.ofNat v.length) d) (Q (I64 2)) (Q (I64 0))))) := by kernel_rfl
def uM2 : (List Int) × Int × Unit → Prop := fun (v, d, ()) => True
noncomputable def uT8 : (List Int) × Int × Unit → AV := fun (v, d, ()) => .int .i64 (vchk v d)
noncomputable def chkK : CallC := valC chkT uM2 uT8
theorem chkVal (v : List Int) (d : Int) (hp : uM2 (v, d, ())) : Val PP 27 (chkT.cells id (v, d, ())) (uT8 (v, d, ())) := by
 refine Val.ofF mixed (KL_ok (cc_nil)) (freesC rfl _) (chkFn v d) ?_
 rw [ifp_lt, ifp_lt, ifp_ne]
 split
 ·rename_i h; exact tells_int (by rw [vchk, if_pos (Or.inl h)])
 ·rename_i h
  split
  ·rename_i h2; exact tells_int (by rw [vchk, if_pos (Or.inr (Or.inl h2))])
  ·rename_i h2
   split
   ·rename_i h3; exact tells_int (by have h3' : (v.length : Int) = d := h3; rw [vchk, if_neg (by omega)])
   ·rename_i h3; exact tells_int (by have h3' : ¬ (v.length : Int) = d := h3; rw [vchk, if_pos (Or.inr (Or.inr h3'))])
theorem uX5 : CcOk PP 27 chkK := val_ok rfl (fun ⟨v, ⟨d, _⟩⟩ h => chkVal v d h)
noncomputable def uVm : Tel uL0 := .cons 0 (.lst Ei16) (.ji 1 (.nil))
theorem rchkFn (v : List Int) (d : Int) (Q : AV → Prop) : (callW PP (runW PP uA9 200) 30 (uVm.cells id (v, d, ())) (stE false) (fun x st => frzW st x Q)) = ( ifp (!leInt 1 d) (Q (I64 2)) (ifp (!leInt d 1024) (Q (I64 2)) (ifp (!eqInt (Int.ofNat v.length) d) (Q (I64 2)) (Q (I64 0))))) := by kernel_rfl
def uGb : (List Int) × Int × Unit → Prop := fun (v, d, ()) => True
noncomputable def uOy : (List Int) × Int × Unit → AV := fun (v, d, ()) => .int .i64 (vchk v d)
noncomputable def uOz : CallC := valC uVm uGb uOy
theorem rchkVal (v : List Int) (d : Int) (hp : uGb (v, d, ())) : Val PP 30 (uVm.cells id (v, d, ())) (uOy (v, d, ())) := by
 refine Val.ofF mixed (KL_ok (cc_nil)) (freesC rfl _) (rchkFn v d) ?_
 rw [ifp_lt, ifp_lt, ifp_ne]
 split
 ·rename_i h; exact tells_int (by rw [vchk, if_pos (Or.inl h)])
 ·rename_i h
  split
  ·rename_i h2; exact tells_int (by rw [vchk, if_pos (Or.inr (Or.inl h2))])
  ·rename_i h2
   split
   ·rename_i h3; exact tells_int (by have h3' : (v.length : Int) = d := h3; rw [vchk, if_neg (by omega)])
   ·rename_i h3; exact tells_int (by have h3' : ¬ (v.length : Int) = d := h3; rw [vchk, if_pos (Or.inr (Or.inr h3'))])
theorem uS9 : CcOk PP 30 uOz := val_ok rfl (fun ⟨v, ⟨d, _⟩⟩ h => rchkVal v d h)
abbrev uBd := Unit × Unit
abbrev uIr := (Unit × (List Int) × Int × Int × (List Int) × Unit) × uBd
noncomputable def uRm : Tel (Unit × (List Int) × Int × Int × (List Int) × Unit) := .cons 1 (.fnp 55 []) (.cons 11 (.lst Ei16) (.ji 12 (.ji 13 (.cons 5 (.own Ei32 0) (.nil)))))
noncomputable def uRp : BTel uBd := .cons (.spare) (.nil)
noncomputable def uRo : List (LForm uIr) := [⟨_, _, uRm, uRp, fun x y => (x, y)⟩]
abbrev uEb := (List Int) × Unit
noncomputable def uHn (R0 : uIr → uEb → uBd → Prop) : List (Alt uIr) := [⟨.exit 0, uEb, Unit × Unit, .cons 5 (.own Ei32 0) (.nil), .cons (.spare) (.nil), R0⟩]
theorem eachForm (l : List Int) (n i : Int) (out : List Int) (N : uIr → Prop) (R0 : uIr → uEb → uBd → Prop) : ((runW PP uA9 100).code none 54 25 (loopBody PP 54 3) (mkT (uRm.av id ((), l, n, i, out, ()))) [] (stL true (uRp.obs id ((), ()))) (postL 0 uRo (uHn R0) (((), l, n, i, out, ()), (), ()) N)) = ( ifp (!leInt n i) (idxOk i l.length ∧ ∃ x : Int, nth ((natOf i).mul 1) (l.flatMap Ei16.f) = some (AV.int .i16 x) ∧ 1 ≤ 1 ∧ ifp (roomy (out.length.add 1) 4) (True ∧ ∃ l_1, Wv Ei16 l l_1 ∧ ∃ (l : List Int), (WkL (out.flatMap Ei32.f ++ [AV.int .i32 (wrapF .i32 x)]) (l.flatMap Ei32.f) ∧ out.length.add 1 = l.length ∧ 1 = 1) ∧ true = true ∧ N (((), l_1, n, wrapF .i64 (i.add 1), l, ()), (), ())) False) (True ∧ ∃ l_1, Ow Ei32 out l_1 1 ∧ true = true ∧ R0 (((), l, n, i, out, ()), (), ()) (l_1, ()) ((), ()))) := by kernel_rfl
def uLc : uIr → Prop := fun (((), l, n, i, out, ()), (), ()) => ∃ k : Nat, i = k ∧ n = l.length ∧ k ≤ l.length ∧ l.length ≤ 1000000 ∧ out = uAa (l.take k)
def uT1 : uIr → Nat := fun (((), l, n, i, out, ()), (), ()) => l.length - i.toNat
def uRn : uIr → uEb → uBd → Prop := fun (((), l, n, i, out, ()), (), ()) (r, _) _ => r = uAa l
noncomputable def uWz : LoopC := loopC 0 uRo (uHn uRn) uLc
theorem eachStep : stepsOk PP uA9 100 54 25 (loopBody PP 54 3) 0 true uRo (uHn uRn) uLc uT1 ⟨_, _, uRm, uRp, fun x y => (x, y)⟩ := by
 intro x y hz
 obtain ⟨_, l, n, i, out, _⟩ := x
 obtain ⟨_, _⟩ := y
 refine (eachForm l n i out _ _).mpr ?_
 obtain ⟨k, rfl, rfl, hk, hl, rfl⟩ := hz
 rw [ifp_lt]
 simp only [natOf_nat]
 have ht : (uAa (l.take k)).length ≤ 1000000 := by rw [uCo, List.length_take]; omega
 split
 ·rename_i h
  have hkl : k < l.length := by simpa using h
  repeat first | refine ⟨Nat.le_refl _, ?_⟩ | rw [ifp_pos (roomy_small (by simp only [Nat.add_eq]; omega) (by decide))] | refine ⟨trivial, ?_⟩ | refine ⟨(rfl : true = true), ?_⟩ | refine ⟨idx_ok (by omega), ?_⟩ | refine ⟨idx_ok0 (by omega), ?_⟩ | refine ⟨_, nth_int (by omega), ?_⟩ | refine ⟨_, _, _, _, _, _, nth_lst (by omega), ?_⟩ | refine ⟨_, _, _, _, _, _, nth_lst0 (by omega), ?_⟩ | refine ⟨_, Wk.refl _, ?_⟩ | rw [ifp_pos rfl]
  refine ⟨uAa (l.take (k + 1)), ⟨?_, ?_, (by trivial)⟩, (by trivial), ?_⟩
  ·rw [uCn hkl]; exact wkl_snoc (E := Ei32) ⟨Wk.refl _, trivial⟩
  ·rw [uCn hkl]; exact len_snoc
  ·rw [wsucc (by omega)]
   exact ⟨⟨k + 1, rfl, rfl, hkl, hl, rfl⟩, by show l.length - (k + 1) < l.length - k; omega, fun _ _ h => h, trivial⟩
 ·rename_i h
  have hkl : ¬ k < l.length := by simpa using h
  refine ⟨trivial, uAa l, ⟨?_, ?_, (by trivial)⟩, (by trivial), rfl⟩
  ·rw [take_all hkl]; exact WkL.refl _
  ·rw [take_all hkl]
theorem eachOk : LoopOk PP 54 25 (.loop (loopBody PP 54 3)) (uWz) := loop_ok uT1  mixed (KL_ok (cc_nil)) rfl (steps_cons eachStep (steps_nil))
noncomputable def uUa : Tel uEb := .cons 0 (.lst Ei16) (.nil)
theorem wideFn (v : List Int) (Q : AV → Prop) : (callW PP (runW PP (KL [] [(54, [(3, uWz)])]) 200) 37 (uUa.cells id (v, ())) (stE true) (fun x st => frzW st x Q)) = ( (0 : Int) ≤ 0 ∧ (0 : Int) ≤ Int.ofNat v.length ∧ Int.ofNat v.length ≤ 16777216 ∧ roomy (natOf (Int.ofNat v.length)) 4 = true ∧ (0 : Int) = 0 ∧ LoopOk PP 54 25 (loopBody PP 54 3).loop uWz ∧ True ∧ True ∧ ∃ l, Wv Ei16 v l ∧ ∃ (l_1 : List Int), (WkL [] (l_1.flatMap Ei32.f) ∧ 0 = l_1.length ∧ 1 = 1) ∧ true = true ∧ uLc (((), l, Int.ofNat v.length, 0, l_1, ()), (), ()) ∧ (∀ c d, uRn (((), l, Int.ofNat v.length, 0, l_1, ()), (), ()) c d → Q (AV.vs (List.flatMap Ei32.f c.1) c.1.length c.1.length false (some 1) 1)) ∧ True) := by kernel_rfl
def uCh : (List Int) × Unit → Prop := fun (v, ()) => v.length ≤ 1000000
noncomputable def uNm : (List Int) × Unit → AV := fun (v, ()) => lst Ei32 (uAa v)
noncomputable def uNn : CallC := valC uUa uCh uNm
theorem wideVal (v : List Int) (hp : uCh (v, ())) : Val PP 37 (uUa.cells id (v, ())) (uNm (v, ())) := by
 refine Val.ofF mixed (KL_ok (cc_nil)) (freesC rfl _) (wideFn v) ?_
 have hp' : v.length ≤ 1000000 := hp
 refine ⟨Int.le_refl _, Int.natCast_nonneg _, by simp only [Int.ofNat_eq_natCast]; omega, roomy_small (by show v.length ≤ _; omega) (by decide), rfl, eachOk, trivial, trivial, v, Wk.refl _, [], ⟨trivial, rfl, rfl⟩, rfl, ⟨0, rfl, rfl, Nat.zero_le _, hp', rfl⟩, fun c _ hr => ?_, trivial⟩
 obtain ⟨r, _⟩ := c
 obtain rfl : r = uAa v := hr
 exact tells_lst ⟨rfl, rfl, rfl⟩
theorem uHv : CcOk PP 37 uNn := val_ok rfl (fun ⟨v, _⟩ h => wideVal v h)
abbrev uBc := ((List Int) × (List Int) × Int × Unit) × uBd
noncomputable def uJm : Tel ((List Int) × (List Int) × Int × Unit) := .cons 0 (.lst Ei16) (.cons 3 (.own Ei32 0) (.ji 4 (.nil)))
noncomputable def uJo : BTel uBd := .cons (.spare) (.nil)
noncomputable def uFx : Tel ((List Int) × Unit × Int × Unit) := .cons 0 (.lst Ei16) (.cons 3 (.nilS) (.ji 4 (.nil)))
noncomputable def uF0 : BTel (Unit) := .nil
noncomputable def uJl : ((List Int) × Unit × Int × Unit) → (Unit) → uBc := fun (l, (), i, ()) () => ((l, [], i, ()), (), ())
noncomputable def uD5 : List (LForm uBc) := [⟨_, _, uJm, uJo, fun x y => (x, y)⟩, ⟨_, _, uFx, uF0, uJl⟩]
noncomputable def uB1 (R0 : uBc → uEb → uBd → Prop) (R1 : uBc → uBd → (Unit) → Prop) : List (Alt uBc) := [⟨.exit 0, uEb, Unit × Unit, .cons 3 (.own Ei32 0) (.nil), .cons (.spare) (.nil), R0⟩, ⟨.exit 0, Unit × Unit, Unit, .cons 3 (.nilS) (.nil), .nil, R1⟩]
theorem rwideForm (l out : List Int) (i : Int) (N : uBc → Prop) (R0 : uBc → uEb → uBd → Prop) (R1 : uBc → uBd → (Unit) → Prop) : ((runW PP uA9 100).code none 18 20 (loopBody PP 18 3) (mkT (uJm.av id (l, out, i, ()))) [] (stL true (uJo.obs id ((), ()))) (postL 0 uD5 (uB1 R0 R1) ((l, out, i, ()), (), ()) N)) = ( ifp (!leInt (Int.ofNat l.length) i) (idxOk i l.length ∧ ∃ x : Int, nth ((natOf i).mul 1) (l.flatMap Ei16.f) = some (AV.int .i16 x) ∧ 1 ≤ 1 ∧ ifp (roomy (out.length.add 1) 4) (True ∧ ((∃ l_1, Wv Ei16 l l_1 ∧ ∃ (l : List Int), (WkL (out.flatMap Ei32.f ++ [AV.int .i32 (wrapF .i32 x)]) (l.flatMap Ei32.f) ∧ out.length.add 1 = l.length ∧ 1 = 1) ∧ true = true ∧ N ((l_1, l, wrapF .i64 (i.add 1), ()), (), ())) ∨ ∃ l_1, Wv Ei16 l l_1 ∧ False)) False) ((True ∧ ∃ l_1, Ow Ei32 out l_1 1 ∧ true = true ∧ R0 ((l, out, i, ()), (), ()) (l_1, ()) ((), ())) ∨ True ∧ False)) := by kernel_rfl
theorem rwideForm0 (l : List Int) (i : Int) (N : uBc → Prop) (R0 : uBc → uEb → uBd → Prop) (R1 : uBc → uBd → (Unit) → Prop) : ((runW PP uA9 100).code none 18 20 (loopBody PP 18 3) (mkT (uFx.av id (l, (), i, ()))) [] (stL true (uF0.obs id ())) (postL 0 uD5 (uB1 R0 R1) (uJl (l, (), i, ()) ()) N)) = ( ifp (!leInt (Int.ofNat l.length) i) (idxOk i l.length ∧ ∃ x : Int, nth ((natOf i).mul 1) (l.flatMap Ei16.f) = some (AV.int .i16 x) ∧ 1 ≤ 1 ∧ True ∧ ((∃ l_1, Wv Ei16 l l_1 ∧ ∃ (l : List Int), (WkL [AV.int .i32 (wrapF .i32 x)] (l.flatMap Ei32.f) ∧ 1 = l.length ∧ 1 = 1) ∧ true = true ∧ N ((l_1, l, wrapF .i64 (i.add 1), ()), (), ())) ∨ ∃ l_1, Wv Ei16 l l_1 ∧ False)) (True ∧ False ∨ True ∧ true = true ∧ R1 ((l, [], i, ()), (), ()) ((), ()) ())) := by kernel_rfl
def uDm : uBc → Prop := fun ((l, out, i, ()), (), ()) => ∃ k : Nat, i = k ∧ k ≤ l.length ∧ l.length ≤ 1000000 ∧ out = uAa (l.take k)
def uJn : uBc → Nat := fun ((l, out, i, ()), (), ()) => l.length - i.toNat
def uFz : uBc → uEb → uBd → Prop := fun ((l, out, i, ()), (), ()) (r, _) _ => r = uAa l
def uFy : uBc → uBd → (Unit) → Prop := fun ((l, out, i, ()), (), ()) _ _ => l = []
noncomputable def uOh : LoopC := loopC 0 uD5 (uB1 uFz uFy) uDm
theorem rwideStep : stepsOk PP uA9 100 18 20 (loopBody PP 18 3) 0 true uD5 (uB1 uFz uFy) uDm uJn ⟨_, _, uJm, uJo, fun x y => (x, y)⟩ := by
 intro x y hz
 obtain ⟨l, out, i, _⟩ := x
 obtain ⟨_, _⟩ := y
 refine (rwideForm l out i _ _ _).mpr ?_
 obtain ⟨k, rfl, hk, hl, rfl⟩ := hz
 rw [ifp_lt]
 simp only [natOf_nat]
 have ht : (uAa (l.take k)).length ≤ 1000000 := by rw [uCo, List.length_take]; omega
 split
 ·rename_i h
  have hkl : k < l.length := by simpa using h
  repeat first | refine ⟨Nat.le_refl _, ?_⟩ | rw [ifp_pos (roomy_small (by simp only [Nat.add_eq]; omega) (by decide))] | refine ⟨trivial, ?_⟩ | refine ⟨(rfl : true = true), ?_⟩ | refine ⟨idx_ok (by omega), ?_⟩ | refine ⟨idx_ok0 (by omega), ?_⟩ | refine ⟨_, nth_int (by omega), ?_⟩ | refine ⟨_, _, _, _, _, _, nth_lst (by omega), ?_⟩ | refine ⟨_, _, _, _, _, _, nth_lst0 (by omega), ?_⟩ | refine ⟨_, Wk.refl _, ?_⟩ | rw [ifp_pos rfl]
  refine Or.inl ⟨l, Wk.refl _, uAa (l.take (k + 1)), ⟨?_, ?_, (by trivial)⟩, (by trivial), ?_⟩
  ·rw [uCn hkl]; exact wkl_snoc (E := Ei32) ⟨Wk.refl _, trivial⟩
  ·rw [uCn hkl]; exact len_snoc
  ·rw [wsucc (by omega)]
   exact ⟨⟨k + 1, rfl, hkl, hl, rfl⟩, by show l.length - (k + 1) < l.length - k; omega, fun _ _ h => h, fun _ _ h => h, trivial⟩
 ·rename_i h
  have hkl : ¬ k < l.length := by simpa using h
  refine Or.inl ⟨trivial, uAa l, ⟨?_, ?_, (by trivial)⟩, (by trivial), rfl⟩
  ·rw [take_all hkl]; exact WkL.refl _
  ·rw [take_all hkl]
theorem rwideStep0 : stepsOk PP uA9 100 18 20 (loopBody PP 18 3) 0 true uD5 (uB1 uFz uFy) uDm uJn ⟨_, _, uFx, uF0, uJl⟩ := by
 intro x y hz
 obtain ⟨l, _, i, _⟩ := x
 obtain _ := y
 refine (rwideForm0 l i _ _ _).mpr ?_
 obtain ⟨k, rfl, hk, hl, h0⟩ := hz
 rw [ifp_lt]
 simp only [natOf_nat]
 have h0' := congrArg List.length h0
 rw [uCo, List.length_take] at h0'
 simp only [List.length_nil] at h0'
 split
 ·rename_i h
  have hkl : k < l.length := by simpa using h
  obtain rfl : k = 0 := by omega
  repeat first | refine ⟨Nat.le_refl _, ?_⟩ | rw [ifp_pos (roomy_small (by simp only [Nat.add_eq]; omega) (by decide))] | refine ⟨trivial, ?_⟩ | refine ⟨(rfl : true = true), ?_⟩ | refine ⟨idx_ok (by omega), ?_⟩ | refine ⟨idx_ok0 (by omega), ?_⟩ | refine ⟨_, nth_int (by omega), ?_⟩ | refine ⟨_, _, _, _, _, _, nth_lst (by omega), ?_⟩ | refine ⟨_, _, _, _, _, _, nth_lst0 (by omega), ?_⟩ | refine ⟨_, Wk.refl _, ?_⟩ | rw [ifp_pos rfl]
  refine Or.inl ⟨l, Wk.refl _, [wrapF .i32 l[0]], ⟨wkl_one (E := Ei32) ⟨Wk.refl _, trivial⟩, by first | trivial | rfl, trivial⟩, trivial, ?_⟩
  rw [wsucc (by omega)]
  exact ⟨⟨1, rfl, hkl, hl, by cases l with | nil => simp at hkl | cons a l => rfl⟩, by show l.length - 1 < l.length - 0; omega, fun _ _ h => h, fun _ _ h => h, trivial⟩
 ·rename_i h
  have hkl : ¬ k < l.length := by simpa using h
  exact Or.inr ⟨trivial, trivial, List.length_eq_zero_iff.1 (by omega)⟩
theorem rwideOk : LoopOk PP 18 20 (.loop (loopBody PP 18 3)) (uOh) := loop_ok uJn  mixed (KL_ok (cc_nil)) rfl (steps_cons rwideStep (steps_cons rwideStep0 (steps_nil)))
noncomputable def uOg : Tel uEb := .cons 0 (.lst Ei16) (.nil)
theorem rwideFn (v : List Int) (Q : AV → Prop) : (callW PP (runW PP (KL [] [(18, [(3, uOh)])]) 200) 18 (uOg.cells id (v, ())) (stE true) (fun x st => frzW st x Q)) = ( LoopOk PP 18 20 (loopBody PP 18 3).loop uOh ∧ True ∧ True ∧ ((∃ l, Wv Ei16 v l ∧ False) ∨ ∃ l, Wv Ei16 v l ∧ true = true ∧ uDm ((l, [], 0, ()), (), ()) ∧ (∀ c d, uFz ((l, [], 0, ()), (), ()) c d → Q (AV.vs (List.flatMap Ei32.f c.1) c.1.length c.1.length false (some 0) 1)) ∧ (∀ c d, uFy ((l, [], 0, ()), (), ()) c d → Q AV.nilSlice) ∧ True)) := by kernel_rfl
def uCc : (List Int) × Unit → Prop := fun (v, ()) => v.length ≤ 1000000
noncomputable def uLr : (List Int) × Unit → AV := fun (v, ()) => lst Ei32 (uAa v)
noncomputable def uS3 : CallC := valC uOg uCc uLr
theorem rwideVal (v : List Int) (hp : uCc (v, ())) : Val PP 18 (uOg.cells id (v, ())) (uLr (v, ())) := by
 refine Val.ofF mixed (KL_ok (cc_nil)) (freesC rfl _) (rwideFn v) ?_
 have hp' : v.length ≤ 1000000 := hp
 refine ⟨rwideOk, trivial, trivial, Or.inr ⟨v, Wk.refl _, rfl, ⟨0, rfl, Nat.zero_le _, hp', rfl⟩, fun c _ hr => ?_, fun _ _ hr => ?_, trivial⟩⟩
 ·obtain ⟨r, _⟩ := c
  obtain rfl : r = uAa v := hr
  exact tells_lst ⟨rfl, rfl, rfl⟩
 ·obtain rfl : v = [] := hr
  exact tells_nil _
theorem rwideCc : CcOk PP 18 uS3 := val_ok rfl (fun ⟨v, _⟩ h => rwideVal v h)
end Go.Proofs.YteehkdejkemnmaaDoor
namespace Go.Proofs.YteehkdejkemnmaaDoor
open Go.Det Go.RowKit
set_option maxRecDepth 100000
def tab : List Int := [0, 1, 56, 2, 57, 49, 28, 3, 61, 58, 42, 50, 38, 29, 17, 4, 62, 47, 59, 36, 45, 43, 51, 22, 53, 39, 33, 30, 24, 18, 12, 5, 63, 55, 48, 27, 60, 41, 37, 16, 46, 35, 44, 21, 52, 32, 23, 11, 54, 26, 40, 15, 34, 20, 31, 10, 25, 14, 19, 9, 13, 8, 7, 6]
abbrev GlOk (gl : Tr (List AV)) : Prop := GlIs 0 .u8 tab gl
abbrev Evl : Enc (List Int) := Enc.list Ei16
noncomputable def allB (n : Nat) (p : Nat → Bool) : Bool := Nat.rec true (fun k r => and (p k) r) n
theorem uCa {p : Nat → Bool} : ∀ {n k : Nat}, allB n p = true → k < n → p k = true
 | 0, k, _, h => by omega
 | n + 1, k, h, hk => by
  have h' : (p n && allB n p) = true := h
  rw [Bool.and_eq_true] at h'
  rcases Nat.lt_or_ge k n with c | c
  ·exact uCa h'.2 c
  ·obtain rfl : k = n := by omega
   exact h'.1
noncomputable def uSx (n : Nat) (p : Nat → Nat → Bool) : Bool := allB n (fun a => allB n (p a))
theorem uDy {p : Nat → Nat → Bool} {n a b : Nat} (h : uSx n p = true) (ha : a < n) (hb : b < n) : p a b = true := uCa (p := p a) (uCa (p := fun a => allB n (p a)) h ha) hb
def ones (k : Nat) : Int := Int.ofNat (Nat.pred (Nat.pow 2 k))
def tzX (n : Nat) : Int := Int.ofNat (Nat.sub 18446744073709551616 (Nat.pow 2 n))
theorem tzI : uSx 64 (fun a b => cond (eqInt (tzX a) (tzX b)) (Nat.beq a b) true) = true := by kernel_rfl
theorem tz_inj {a b : Nat} (ha : a < 64) (hb : b < 64) (h : tzX a = tzX b) : a = b := by
 have := uDy tzI ha hb
 rw [eqInt_iff.2 h] at this
 exact of_beq this
theorem onesI : uSx 64 (fun a b => cond (eqInt (ones a) (ones b)) (Nat.beq a b) true) = true := by kernel_rfl
theorem ones_inj {a b : Nat} (ha : a < 64) (hb : b < 64) (h : ones a = ones b) : a = b := by
 have := uDy onesI ha hb
 rw [eqInt_iff.2 h] at this
 exact of_beq this
theorem tzRan : allB 64 (fun n => answersInt .i64 (Int.ofNat n) ((run PP 100).call 49 [.int .u64 (tzX n)] (stG 0 .u8 tab))) = true := by kernel_rfl
abbrev uBl := Int × Unit
noncomputable def tzT : Tel uBl := .cons 0 (.int .u64) .nil
def uW7 : uBl × Unit → Prop := fun ((x, ()), ()) => ∃ n : Nat, n < 64 ∧ x = tzX n
def tzR0 : uBl × Unit → uBl → Unit → Prop := fun ((x, ()), ()) (r, ()) () => ∀ n : Nat, n < 64 → x = tzX n → r = n
noncomputable def tzK (gl : Tr (List AV)) : CallC := callCg gl 0 tzT BTel.nil uW7 [⟨_, _, .cons 0 (.int .i64) .nil, BTel.nil, tzR0⟩]
theorem tzCc {gl : Tr (List AV)} (hg : GlOk gl) : CcOk PP 49 (tzK gl) :=
 call_ok_ofg (vm := false) (rw' := fun _ => false) hg.fr rfl fun z hz => by
  obtain ⟨⟨x, _⟩, _⟩ := z
  obtain ⟨n, hn, rfl⟩ := hz
  obtain ⟨st1, h1⟩ := int_gl mixed (uCa tzRan hn) hg false
  refine ⟨_, st1, h1, ?_⟩
  show resAt 0 _ _ (.int .i64 (Int.ofNat n)) st1
  unfold resAt one1
  refine (ifp_iff.2 (Or.inl ⟨rfl, ?_⟩))
  exact ⟨rfl, fun m hm e => by rw [tz_inj hn hm e]; rfl⟩
theorem onesX : allB 64 (fun k => eqInt (wrapF .u64 (.ofNat (Nat.xor (natOf (uns (modOf .u64) 18446744073709551615)) (natOf (uns (modOf .u64) (ones k)))))) (tzX k)) = true := by kernel_rfl
theorem uXq : allB 64 (fun k => eqInt (wrapF .u64 (.ofNat (Nat.lor (natOf (uns (modOf .u64) (ones k))) (natOf (uns (modOf .u64) (shlV .u64 1 (Int.ofNat k))))))) (ones (k + 1))) = true := by kernel_rfl
theorem onesN : allB 64 (fun k => not (eqInt (ones k) 18446744073709551615)) = true := by kernel_rfl
theorem uXr : uSx 64 (fun k n => cond (eqInt (wrapF .u64 (.ofNat (Nat.land (natOf (uns (modOf .u64) (shrV .u64 (ones k) (Int.ofNat n)))) (natOf (uns (modOf .u64) 1))))) 1) (Nat.blt n k) (Nat.ble k n)) = true := by kernel_rfl
structure SlOk (d r c : Int) (t a : Nat × Nat) (T A : List Int) (V : List (List Int)) : Prop where
 d1 : 1 ≤ d ∧ d ≤ 1024
 r1 : r = 60
 l : V.length ≤ 60
 c1 : c = V.length
 t1 : t = (1, 1)
 T1 : T = [ones V.length]
 a1 : a = (A.length, A.length)
 A1 : A = V.flatten
 v1 : ∀ v ∈ V, (v.length : Int) = d
theorem uCp {v : List Int} {d : Int} (h : vchk v d = 0) : 1 ≤ d ∧ d ≤ 1024 ∧ (v.length : Int) = d := by
 unfold vchk at h; split at h
 ·cases h
 ·omega
theorem uFp {v : List Int} {d : Int} (h : ¬ vchk v d = 0) (h1 : 1 ≤ d) (h2 : d ≤ 1024) : ¬ (v.length : Int) = d := fun e => h (by rw [vchk, if_neg (by omega)])
theorem uHj {V : List (List Int)} {D : Nat} (h : ∀ v ∈ V, v.length = D) : V.flatten.length = V.length * D := by
 induction V with
 | nil => simp
 | cons v V ih => rw [List.flatten_cons, List.length_append, h v (by simp), ih (fun w hw => h w (by simp [hw])), List.length_cons, Nat.succ_mul, Nat.add_comm]
theorem uHu {a b : Nat} (h : a * b < 4611686018427387904) : wrapF .i64 (Int.mul (a : Int) (b : Int)) = ((a * b : Nat) : Int) := by
 rw [show Int.mul (a : Int) (b : Int) = ((a * b : Nat) : Int) from rfl, w64 (by omega) (by omega)]
theorem uR2 {A u : List Int} {D : Nat} (hu : u.length = D) : setAt A.length (u.flatMap Ei16.f) (A.flatMap Ei16.f ++ repl D [AV.int .i16 0]) = (A ++ u).flatMap Ei16.f := by
 rw [show repl D [AV.int .i16 0] = (List.replicate D (0 : Int)).flatMap Ei16.f from repl_enc (E := Ei16) (x := 0) D, ← List.flatMap_append, setAt_app (E := Ei16) rfl (by simp; omega)]
 simp [hu]
theorem uH0 (D : Nat) : allScalar (repl D [AV.int .i16 0]) = true := by
 rw [show repl D [AV.int .i16 0] = (List.replicate D (0 : Int)).flatMap Ei16.f from repl_enc (E := Ei16) (x := 0) D]; exact Enc.fscal Ei16 _
def putS (d : Int) (V : List (List Int)) (v : List Int) : List (List Int) := if (v.length : Int) = d then V ++ [v] else V
abbrev uJ7 := Int × Int × Int × (Nat × Nat) × (Nat × Nat) × Unit × Unit
abbrev uBg := (Unit × (Nat × Nat) × Int × Int × Unit) × (uJ7 × (List Int) × (List Int) × Unit)
noncomputable def uG9 : Tel (Unit × (Nat × Nat) × Int × Int × Unit) := .cons 0 (.ptr 0) (.cons 8 (.slq 1 1) (.ji 9 (.ji 10 (.nil))))
noncomputable abbrev uB3 := Bk.row (.ji 0 (.ji 1 (.ji 2 (.cons 3 (.slq 1 1) (.cons 4 (.slq 2 1) (.cons 5 (.nilS) (.nil)))))))
noncomputable def uHe : BTel (uJ7 × (List Int) × (List Int) × Unit) := .cons uB3 (.cons (.rows Eu64 82) (.cons (.rows Ei16 26) (.nil)))
noncomputable def uHc : List (LForm uBg) := [⟨_, _, uG9, uHe, fun x y => (x, y)⟩]
abbrev uAt := uJ7 × (List Int) × (List Int) × Unit
noncomputable def uC3 (R0 : uBg → (Unit × Unit) → uAt → Prop) (R1 : uBg → uBl → uAt → Prop) : List (Alt uBg) := [⟨.exit 0, Unit × Unit, uAt, .cons 0 (.ptr 0) (.nil), .cons uB3 (.cons (.rows Eu64 82) (.cons (.rows Ei16 26) (.nil))), R0⟩, ⟨.ret, Int × Unit, uAt, .ji 2 (.nil), .cons uB3 (.cons (.rows Eu64 82) (.cons (.rows Ei16 26) (.nil))), R1⟩]
theorem leastLForm (gl : Tr (List AV)) (t8 : Nat × Nat) (n i d r c : Int) (t a : Nat × Nat) (T A : List Int) (N : uBg → Prop) (R0 : uBg → (Unit × Unit) → uAt → Prop) (R1 : uBg → uBl → uAt → Prop) : ((runW PP (KLX [(49, tzK gl)] [] [82, 26] [] []) 100).code none 28 30 (loopBody PP 28 2) (mkT (uG9.av id ((), t8, n, i, ()))) [] (stL false (uHe.obs id ((d, r, c, t, a, (), ()), T, A, ())) gl) (postL 3 uHc (uC3 R0 R1) (((), t8, n, i, ()), (d, r, c, t, a, (), ()), T, A, ()) N)) = ( ifp (!leInt n i) (idxOk i t8.1 ∧ ∃ x : Int, nth (Nat.add 0 ((natOf i).mul 1)) (T.flatMap Eu64.f) = some (AV.int .u64 x) ∧ ifp (!eqInt x 18446744073709551615) (gl = gl ∧ true = true ∧ uW7 ((wrapF .u64 (Int.ofNat ((natOf (uns (modOf .u64) 18446744073709551615)).xor (natOf (uns (modOf .u64) x)))), ()), ()) ∧ (∀ c_1 d_1, tzR0 ((wrapF .u64 (Int.ofNat ((natOf (uns (modOf .u64) 18446744073709551615)).xor (natOf (uns (modOf .u64) x)))), ()), ()) c_1 d_1 → True ∧ ∃ l, Sa Eu64 T l ∧ ∃ l_1, Sa Ei16 A l_1 ∧ true = true ∧ R1 (((), t8, n, i, ()), (d, r, c, t, a, (), ()), T, A, ()) (wrapF .i64 ((wrapF .i64 (i.mul 64)).add c_1.1), ()) ((d, r, c, t, a, (), ()), l, l_1, ())) ∧ True) (True ∧ ∃ l, Sa Eu64 T l ∧ ∃ l_1, Sa Ei16 A l_1 ∧ true = true ∧ N (((), t8, n, wrapF .i64 (i.add 1), ()), (d, r, c, t, a, (), ()), l, l_1, ()))) (True ∧ ∃ l, Sa Eu64 T l ∧ ∃ l_1, Sa Ei16 A l_1 ∧ true = true ∧ R0 (((), t8, n, i, ()), (d, r, c, t, a, (), ()), T, A, ()) ((), ()) ((d, r, c, t, a, (), ()), l, l_1, ()))) := by kernel_rfl
def uEp : uBg → Prop := fun (((), t8, n, i, ()), (d, r, c, t, a, (), ()), T, A, ()) => ∃ k : Nat, k < 64 ∧ T = [ones k] ∧ t8 = (1, 1) ∧ n = 1 ∧ i = 0
def uMu : uBg → Nat := fun (((), t8, n, i, ()), (d, r, c, t, a, (), ()), T, A, ()) => 0
def uHb : uBg → (Unit × Unit) → uAt → Prop := fun (((), t8, n, i, ()), (d, r, c, t, a, (), ()), T, A, ()) _ _ => False
def uHa : uBg → uBl → uAt → Prop := fun (((), t8, n, i, ()), (d, r, c, t, a, (), ()), T, A, ()) (q, _) ((d2, r2, c2, t2, a2, _), T2, A2, _) => d2 = d ∧ r2 = r ∧ c2 = c ∧ t2 = t ∧ a2 = a ∧ T2 = T ∧ A2 = A ∧ ∀ k : Nat, k < 64 → T = [ones k] → q = k
noncomputable def uHd (gl : Tr (List AV)) : LoopC := loopCg gl 3 uHc (uC3 uHb uHa) uEp
theorem leastLStep {gl : Tr (List AV)} (hg : GlOk gl) : stepsOk PP (KLX [(49, tzK gl)] [] [82, 26] [] []) 100 28 30 (loopBody PP 28 2) 3 false uHc (uC3 uHb uHa) uEp uMu ⟨_, _, uG9, uHe, fun x y => (x, y)⟩ gl := by
 intro x y hz
 obtain ⟨_, t8, n, i, _⟩ := x
 obtain ⟨⟨d, r, c, t, a, _, _⟩, T, A, _⟩ := y
 refine (leastLForm gl t8 n i d r c t a T A _ _ _).mpr ?_
 obtain ⟨k, hk, rfl, rfl, rfl, rfl⟩ := hz
 rw [ifp_lt, if_pos (by decide)]
 have hx := eqInt_iff.1 (uCa onesX hk)
 have hn : ¬ ones k = 18446744073709551615 := fun e => by
  have := uCa onesN hk
  rw [show eqInt (ones k) 18446744073709551615 = true from eqInt_iff.2 e] at this; cases this
 refine ⟨⟨by decide, by decide⟩, ones k, rfl, ?_⟩
 rw [ifp_ne, if_neg hn]
 refine ⟨rfl, rfl, ⟨k, hk, hx⟩, fun c1 d1 hr => ?_, trivial⟩
 obtain ⟨q, _⟩ := c1
 have hq := hr k hk hx
 obtain rfl : q = k := hq
 refine ⟨trivial, [ones k], rfl, A, rfl, rfl, rfl, rfl, rfl, rfl, rfl, rfl, rfl, fun m hm e => ?_⟩
 have e' : k = m := ones_inj hk hm (List.cons.inj e).1
 show wrapF .i64 (Int.add (wrapF .i64 (Int.mul 0 64)) (k : Int)) = m
 rw [show wrapF .i64 (Int.mul 0 64) = 0 from rfl, wadd (by omega) (by omega), e']; omega
theorem leastLOk {gl : Tr (List AV)} (hg : GlOk gl) : LoopOk PP 28 30 (.loop (loopBody PP 28 2)) (uHd gl) := loop_okg uMu hg.fr mixed (KLX_ok (cc_cons (tzCc hg) (cc_nil))) rfl (steps_cons (leastLStep hg) (steps_nil))
abbrev uFh := (Unit × Unit) × uAt
noncomputable def uQr : Tel (Unit × Unit) := .cons 0 (.ptr 0) (.nil)
noncomputable def uK2 : BTel uAt := .cons uB3 (.cons (.rows Eu64 82) (.cons (.rows Ei16 26) (.nil)))
noncomputable def uG7 (R0 : uFh → uBl → uAt → Prop) : List (Res uFh) := [⟨Int × Unit, uAt, .ji 0 (.nil), .cons uB3 (.cons (.rows Eu64 82) (.cons (.rows Ei16 26) (.nil))), R0⟩]
theorem leastFn (gl : Tr (List AV)) (d r c : Int) (t a : Nat × Nat) (T A : List Int) (R0 : uFh → uBl → uAt → Prop) : (callW PP (runW PP (KLX [] [(28, [(2, uHd gl)])] [82, 26] [] []) 200) 28 (uQr.cells id ((), ())) (stL false (uK2.obs id ((d, r, c, t, a, (), ()), T, A, ())) gl) (fun v st => resAny 3 (((), ()), (d, r, c, t, a, (), ()), T, A, ()) v st (uG7 R0))) = ( LoopOk PP 28 30 (loopBody PP 28 2).loop (uHd gl) ∧ gl = gl ∧ True ∧ True ∧ ∃ l, Sa Eu64 T l ∧ ∃ l_1, Sa Ei16 A l_1 ∧ true = true ∧ uEp (((), t, Int.ofNat t.1, 0, ()), (d, r, c, t, a, (), ()), l, l_1, ()) ∧ (∀ c_1 d_1, uHb (((), t, Int.ofNat t.1, 0, ()), (d, r, c, t, a, (), ()), l, l_1, ()) c_1 d_1 → ∃ l, Sa Eu64 d_1.2.1 l ∧ ∃ l_2, Sa Ei16 d_1.2.2.1 l_2 ∧ true = true ∧ R0 (((), ()), (d, r, c, t, a, (), ()), T, A, ()) (wrapF .i64 ((Int.ofNat d_1.1.2.2.2.1.1).mul 64), ()) ((d_1.1.1, d_1.1.2.1, d_1.1.2.2.1, d_1.1.2.2.2.1, d_1.1.2.2.2.2.1, (), ()), l, l_2, ())) ∧ (∀ c_1 d_1, uHa (((), t, Int.ofNat t.1, 0, ()), (d, r, c, t, a, (), ()), l, l_1, ()) c_1 d_1 → ∃ l, Sa Eu64 d_1.2.1 l ∧ ∃ l_2, Sa Ei16 d_1.2.2.1 l_2 ∧ true = true ∧ R0 (((), ()), (d, r, c, t, a, (), ()), T, A, ()) (c_1.1, ()) ((d_1.1.1, d_1.1.2.1, d_1.1.2.2.1, d_1.1.2.2.2.1, d_1.1.2.2.2.2.1, (), ()), l, l_2, ())) ∧ True) := by kernel_rfl
def uG8 : uFh → Prop := fun (((), ()), (d, r, c, t, a, (), ()), T, A, ()) => t = (1, 1) ∧ ∃ k : Nat, k < 64 ∧ T = [ones k]
def uK1 : uFh → uBl → uAt → Prop := fun (((), ()), (d, r, c, t, a, (), ()), T, A, ()) (q, _) ((d2, r2, c2, t2, a2, _), T2, A2, _) => d2 = d ∧ r2 = r ∧ c2 = c ∧ t2 = t ∧ a2 = a ∧ T2 = T ∧ A2 = A ∧ ∀ k : Nat, k < 64 → T = [ones k] → q = k
noncomputable def uQs (gl : Tr (List AV)) : CallC := callCg gl 3 uQr uK2 uG8 (uG7 uK1)
theorem leastStep {gl : Tr (List AV)} (hg : GlOk gl) (z : uFh) (hp : uG8 z) : callW PP (runW PP (KLX [] [(28, [(2, uHd gl)])] [82, 26] [] []) 200) 28 (uQr.cells id z.1) (stL false (uK2.obs id z.2) gl) (fun v st => resAny 3 z v st (uG7 uK1)) := by
 obtain ⟨⟨_, _⟩, ⟨⟨d, r, c, t, a, _, _⟩, T, A, _⟩⟩ := z
 refine (leastFn gl d r c t a T A _).mpr ?_
 obtain ⟨rfl, k, hk, rfl⟩ := hp
 refine ⟨leastLOk hg, rfl, trivial, trivial, [ones k], rfl, A, rfl, rfl, ⟨k, hk, rfl, rfl, rfl, rfl⟩, fun _ _ h => h.elim, fun c1 d1 hr => ?_, trivial⟩
 obtain ⟨q, _⟩ := c1
 obtain ⟨⟨d2, r2, c2, t2, a2, _, _⟩, T2, A2, _⟩ := d1
 exact ⟨T2, rfl, A2, rfl, rfl, hr⟩
theorem leastCc {gl : Tr (List AV)} (hg : GlOk gl) : CcOk PP 28 (uQs gl) := call_okg hg.fr mixed (KLX_ok (cc_nil)) rfl (leastStep hg)
abbrev uB2 := Unit × (List Int) × Unit
abbrev uNb := uB2 × uAt
noncomputable def uVo : Tel uB2 := .cons 0 (.ptr 0) (.cons 1 (.lst Ei16) (.nil))
noncomputable def uPq : BTel uAt := .cons uB3 (.cons (.rows Eu64 82) (.cons (.rows Ei16 26) (.nil)))
abbrev uA6 := Int × Int × Unit
noncomputable def uKh (R0 : uNb → uA6 → uAt → Prop) : List (Res uNb) := [⟨Int × Int × Unit, uAt, .ji 0 (.ji 1 (.nil)), .cons uB3 (.cons (.rows Eu64 82) (.cons (.rows Ei16 26) (.nil))), R0⟩]
theorem put1Fn (gl : Tr (List AV)) (u : List Int) (d r c : Int) (t a : Nat × Nat) (T A : List Int) (R0 : uNb → uA6 → uAt → Prop) : (callW PP (runW PP (KLY [(27, chkK), (28, uQs gl)] [] [82, 26] [] [] [(12, [9, 12])]) 200) 12 (uVo.cells id ((), u, ())) (stL false (uPq.obs id ((d, r, c, t, a, (), ()), T, A, ())) gl) (fun v st => resAny 1 (((), u, ()), (d, r, c, t, a, (), ()), T, A, ()) v st (uKh R0))) = ( ∃ l, Wv Ei16 u l ∧ uM2 (l, d, ()) ∧ ifp (!eqInt (vchk l d) 0) (∃ l_1, Sa Eu64 T l_1 ∧ ∃ l_2, Sa Ei16 A l_2 ∧ true = true ∧ R0 (((), u, ()), (d, r, c, t, a, (), ()), T, A, ()) (0, vchk l d, ()) ((d, r, c, t, a, (), ()), l_1, l_2, ())) (gl = gl ∧ ∃ l, Sa Eu64 T l ∧ ∃ l_1, Sa Ei16 A l_1 ∧ true = true ∧ uG8 (((), ()), (d, r, c, t, a, (), ()), l, l_1, ()) ∧ (∀ c_1 d_1, uK1 (((), ()), (d, r, c, t, a, (), ()), l, l_1, ()) c_1 d_1 → ifp (leInt d_1.1.2.1 c_1.1) (∃ l, Sa Eu64 d_1.2.1 l ∧ ∃ l_2, Sa Ei16 d_1.2.2.1 l_2 ∧ true = true ∧ R0 (((), u, ()), (d, r, c, t, a, (), ()), T, A, ()) (0, 7, ()) ((d_1.1.1, d_1.1.2.1, d_1.1.2.2.1, d_1.1.2.2.2.1, d_1.1.2.2.2.2.1, (), ()), l, l_2, ())) ((64 : Int) ≠ 0 ∧ wrapF .i64 (c_1.1.tdiv 64) ≠ Int.ofNat d_1.1.2.2.2.1.1 ∧ True ∧ True ∧ True ∧ (0 : Int) < wrapF .i64 ((wrapF .i64 ((wrapF .i64 (c_1.1.add 1)).mul d_1.1.1)).sub (Int.ofNat d_1.1.2.2.2.2.1.1)) ∧ (0 : Int) ≤ wrapF .i64 ((wrapF .i64 ((wrapF .i64 (c_1.1.add 1)).mul d_1.1.1)).sub (Int.ofNat d_1.1.2.2.2.2.1.1)) ∧ wrapF .i64 ((wrapF .i64 ((wrapF .i64 (c_1.1.add 1)).mul d_1.1.1)).sub (Int.ofNat d_1.1.2.2.2.2.1.1)) ≤ 16777216 ∧ roomy (natOf (wrapF .i64 ((wrapF .i64 ((wrapF .i64 (c_1.1.add 1)).mul d_1.1.1)).sub (Int.ofNat d_1.1.2.2.2.2.1.1)))) 2 = true ∧ ifp (allScalar (repl (natOf (wrapF .i64 ((wrapF .i64 ((wrapF .i64 (c_1.1.add 1)).mul d_1.1.1)).sub (Int.ofNat d_1.1.2.2.2.2.1.1)))) [AV.int .i16 0]) && true) ((d_1.1.2.2.2.2.1.2 < d_1.1.2.2.2.2.1.1.add (natOf (wrapF .i64 ((wrapF .i64 ((wrapF .i64 (c_1.1.add 1)).mul d_1.1.1)).sub (Int.ofNat d_1.1.2.2.2.2.1.1)))) ∧ 0 = 0 ∧ d_1.1.2.2.2.2.1.1.mul 1 = (List.flatMap Ei16.f d_1.2.2.1).length ∧ roomy (d_1.1.2.2.2.2.1.1.add (natOf (wrapF .i64 ((wrapF .i64 ((wrapF .i64 (c_1.1.add 1)).mul d_1.1.1)).sub (Int.ofNat d_1.1.2.2.2.2.1.1))))) 2 = true ∧ (64 : Int) ≠ 0 ∧ idxOk (wrapF .i64 (c_1.1.tdiv 64)) d_1.1.2.2.2.1.1 ∧ ∃ x : Int, nth (Nat.add 0 ((natOf (wrapF .i64 (c_1.1.tdiv 64))).mul 1)) (List.flatMap Eu64.f d_1.2.1) = some (AV.int .u64 x) ∧ (64 : Int) ≠ 0 ∧ (0 : Int) ≤ c_1.1.tmod 64 ∧ idxOk (wrapF .i64 (c_1.1.tdiv 64)) d_1.1.2.2.2.1.1 ∧ (Nat.add 0 ((natOf (wrapF .i64 (c_1.1.tdiv 64))).mul 1)).add 1 ≤ (List.flatMap Eu64.f d_1.2.1).length ∧ True ∧ True ∧ (0 : Int) ≤ wrapF .i64 ((wrapF .i64 (c_1.1.add 1)).mul d_1.1.1) ∧ wrapF .i64 ((wrapF .i64 (c_1.1.add 1)).mul d_1.1.1) ≤ ↑(d_1.1.2.2.2.2.1.1.add (natOf (wrapF .i64 ((wrapF .i64 ((wrapF .i64 (c_1.1.add 1)).mul d_1.1.1)).sub (Int.ofNat d_1.1.2.2.2.2.1.1))))) ∧ (0 : Int) ≤ wrapF .i64 ((wrapF .i64 (c_1.1.add 1)).mul d_1.1.1) ∧ wrapF .i64 ((wrapF .i64 (c_1.1.add 1)).mul d_1.1.1) ≤ ↑(natOf (wrapF .i64 ((wrapF .i64 (c_1.1.add 1)).mul d_1.1.1))) ∧ (0 : Int) ≤ wrapF .i64 (c_1.1.mul d_1.1.1) ∧ wrapF .i64 (c_1.1.mul d_1.1.1) ≤ ↑(natOf (wrapF .i64 ((wrapF .i64 (c_1.1.add 1)).mul d_1.1.1))) ∧ True ∧ True ∧ True ∧ True ∧ True ∧ (minN u.length ((natOf (wrapF .i64 ((wrapF .i64 (c_1.1.add 1)).mul d_1.1.1))).sub (natOf (wrapF .i64 (c_1.1.mul d_1.1.1))))).mul 1 ≤ (u.flatMap Ei16.f).length ∧ ifp (allScalar (List.take ((minN u.length ((natOf (wrapF .i64 ((wrapF .i64 (c_1.1.add 1)).mul d_1.1.1))).sub (natOf (wrapF .i64 (c_1.1.mul d_1.1.1))))).mul 1) (u.flatMap Ei16.f))) ((Nat.add 0 ((natOf (wrapF .i64 (c_1.1.mul d_1.1.1))).mul 1)).add (List.take ((minN u.length ((natOf (wrapF .i64 ((wrapF .i64 (c_1.1.add 1)).mul d_1.1.1))).sub (natOf (wrapF .i64 (c_1.1.mul d_1.1.1))))).mul 1) (u.flatMap Ei16.f)).length ≤ (List.flatMap Ei16.f d_1.2.2.1 ++ repl (natOf (wrapF .i64 ((wrapF .i64 ((wrapF .i64 (c_1.1.add 1)).mul d_1.1.1)).sub (Int.ofNat d_1.1.2.2.2.2.1.1)))) [AV.int .i16 0]).length ∧ ∃ (l : List Int), setAt (Nat.add 0 ((natOf (wrapF .i64 (c_1.1.tdiv 64))).mul 1)) [AV.int .u64 (wrapF .u64 (Int.ofNat ((natOf (uns (modOf .u64) x)).lor (natOf (uns (modOf .u64) (shlV .u64 1 (c_1.1.tmod 64)))))))] (List.flatMap Eu64.f d_1.2.1) = l.flatMap Eu64.f ∧ ∃ (l_2 : List Int), setAt (Nat.add 0 ((natOf (wrapF .i64 (c_1.1.mul d_1.1.1))).mul 1)) (List.take ((minN u.length ((natOf (wrapF .i64 ((wrapF .i64 (c_1.1.add 1)).mul d_1.1.1))).sub (natOf (wrapF .i64 (c_1.1.mul d_1.1.1))))).mul 1) (u.flatMap Ei16.f)) (List.flatMap Ei16.f d_1.2.2.1 ++ repl (natOf (wrapF .i64 ((wrapF .i64 ((wrapF .i64 (c_1.1.add 1)).mul d_1.1.1)).sub (Int.ofNat d_1.1.2.2.2.2.1.1)))) [AV.int .i16 0]) = l_2.flatMap Ei16.f ∧ true = true ∧ R0 (((), u, ()), (d, r, c, t, a, (), ()), T, A, ()) (c_1.1, 0, ()) ((d_1.1.1, d_1.1.2.1, wrapF .i64 (d_1.1.2.2.1.add 1), d_1.1.2.2.2.1, (d_1.1.2.2.2.2.1.1.add (natOf (wrapF .i64 ((wrapF .i64 ((wrapF .i64 (c_1.1.add 1)).mul d_1.1.1)).sub (Int.ofNat d_1.1.2.2.2.2.1.1)))), d_1.1.2.2.2.2.1.1.add (natOf (wrapF .i64 ((wrapF .i64 ((wrapF .i64 (c_1.1.add 1)).mul d_1.1.1)).sub (Int.ofNat d_1.1.2.2.2.2.1.1))))), (), ()), l, l_2, ())) False) ∨ d_1.1.2.2.2.2.1.1.add (natOf (wrapF .i64 ((wrapF .i64 ((wrapF .i64 (c_1.1.add 1)).mul d_1.1.1)).sub (Int.ofNat d_1.1.2.2.2.2.1.1)))) ≤ d_1.1.2.2.2.2.1.2 ∧ natOf (wrapF .i64 ((wrapF .i64 ((wrapF .i64 (c_1.1.add 1)).mul d_1.1.1)).sub (Int.ofNat d_1.1.2.2.2.2.1.1))) ≠ 0 ∧ (Nat.add 0 (d_1.1.2.2.2.2.1.1.mul 1)).add (repl (natOf (wrapF .i64 ((wrapF .i64 ((wrapF .i64 (c_1.1.add 1)).mul d_1.1.1)).sub (Int.ofNat d_1.1.2.2.2.2.1.1)))) [AV.int .i16 0]).length ≤ (List.flatMap Ei16.f d_1.2.2.1).length ∧ (64 : Int) ≠ 0 ∧ idxOk (wrapF .i64 (c_1.1.tdiv 64)) d_1.1.2.2.2.1.1 ∧ ∃ x : Int, nth (Nat.add 0 ((natOf (wrapF .i64 (c_1.1.tdiv 64))).mul 1)) (List.flatMap Eu64.f d_1.2.1) = some (AV.int .u64 x) ∧ (64 : Int) ≠ 0 ∧ (0 : Int) ≤ c_1.1.tmod 64 ∧ idxOk (wrapF .i64 (c_1.1.tdiv 64)) d_1.1.2.2.2.1.1 ∧ (Nat.add 0 ((natOf (wrapF .i64 (c_1.1.tdiv 64))).mul 1)).add 1 ≤ (List.flatMap Eu64.f d_1.2.1).length ∧ True ∧ True ∧ (0 : Int) ≤ wrapF .i64 ((wrapF .i64 (c_1.1.add 1)).mul d_1.1.1) ∧ wrapF .i64 ((wrapF .i64 (c_1.1.add 1)).mul d_1.1.1) ≤ ↑d_1.1.2.2.2.2.1.2 ∧ (0 : Int) ≤ wrapF .i64 ((wrapF .i64 (c_1.1.add 1)).mul d_1.1.1) ∧ wrapF .i64 ((wrapF .i64 (c_1.1.add 1)).mul d_1.1.1) ≤ ↑(natOf (wrapF .i64 ((wrapF .i64 (c_1.1.add 1)).mul d_1.1.1))) ∧ (0 : Int) ≤ wrapF .i64 (c_1.1.mul d_1.1.1) ∧ wrapF .i64 (c_1.1.mul d_1.1.1) ≤ ↑(natOf (wrapF .i64 ((wrapF .i64 (c_1.1.add 1)).mul d_1.1.1))) ∧ True ∧ True ∧ True ∧ True ∧ True ∧ (minN u.length ((natOf (wrapF .i64 ((wrapF .i64 (c_1.1.add 1)).mul d_1.1.1))).sub (natOf (wrapF .i64 (c_1.1.mul d_1.1.1))))).mul 1 ≤ (u.flatMap Ei16.f).length ∧ ifp (allScalar (List.take ((minN u.length ((natOf (wrapF .i64 ((wrapF .i64 (c_1.1.add 1)).mul d_1.1.1))).sub (natOf (wrapF .i64 (c_1.1.mul d_1.1.1))))).mul 1) (u.flatMap Ei16.f))) ((Nat.add 0 ((natOf (wrapF .i64 (c_1.1.mul d_1.1.1))).mul 1)).add (List.take ((minN u.length ((natOf (wrapF .i64 ((wrapF .i64 (c_1.1.add 1)).mul d_1.1.1))).sub (natOf (wrapF .i64 (c_1.1.mul d_1.1.1))))).mul 1) (u.flatMap Ei16.f)).length ≤ (setAt (Nat.add 0 (d_1.1.2.2.2.2.1.1.mul 1)) (repl (natOf (wrapF .i64 ((wrapF .i64 ((wrapF .i64 (c_1.1.add 1)).mul d_1.1.1)).sub (Int.ofNat d_1.1.2.2.2.2.1.1)))) [AV.int .i16 0]) (List.flatMap Ei16.f d_1.2.2.1)).length ∧ ∃ (l : List Int), setAt (Nat.add 0 ((natOf (wrapF .i64 (c_1.1.tdiv 64))).mul 1)) [AV.int .u64 (wrapF .u64 (Int.ofNat ((natOf (uns (modOf .u64) x)).lor (natOf (uns (modOf .u64) (shlV .u64 1 (c_1.1.tmod 64)))))))] (List.flatMap Eu64.f d_1.2.1) = l.flatMap Eu64.f ∧ ∃ (l_2 : List Int), setAt (Nat.add 0 ((natOf (wrapF .i64 (c_1.1.mul d_1.1.1))).mul 1)) (List.take ((minN u.length ((natOf (wrapF .i64 ((wrapF .i64 (c_1.1.add 1)).mul d_1.1.1))).sub (natOf (wrapF .i64 (c_1.1.mul d_1.1.1))))).mul 1) (u.flatMap Ei16.f)) (setAt (Nat.add 0 (d_1.1.2.2.2.2.1.1.mul 1)) (repl (natOf (wrapF .i64 ((wrapF .i64 ((wrapF .i64 (c_1.1.add 1)).mul d_1.1.1)).sub (Int.ofNat d_1.1.2.2.2.2.1.1)))) [AV.int .i16 0]) (List.flatMap Ei16.f d_1.2.2.1)) = l_2.flatMap Ei16.f ∧ true = true ∧ R0 (((), u, ()), (d, r, c, t, a, (), ()), T, A, ()) (c_1.1, 0, ()) ((d_1.1.1, d_1.1.2.1, wrapF .i64 (d_1.1.2.2.1.add 1), d_1.1.2.2.2.1, (d_1.1.2.2.2.2.1.1.add (natOf (wrapF .i64 ((wrapF .i64 ((wrapF .i64 (c_1.1.add 1)).mul d_1.1.1)).sub (Int.ofNat d_1.1.2.2.2.2.1.1)))), d_1.1.2.2.2.2.1.2), (), ()), l, l_2, ())) False) False)) ∧ True)) := by kernel_rfl
def uKi : uNb → Prop := fun (((), u, ()), (d, r, c, t, a, (), ()), T, A, ()) => ∃ V, SlOk d r c t a T A V ∧ V.length < 60 ∧ V ≠ []
def uPp : uNb → uA6 → uAt → Prop := fun (((), u, ()), (d, r, c, t, a, (), ()), T, A, ()) _ ((d2, r2, c2, t2, a2, _), T2, A2, _) => d2 = d ∧ ∀ V, SlOk d r c t a T A V → SlOk d r2 c2 t2 a2 T2 A2 (putS d V u)
noncomputable def uXl (gl : Tr (List AV)) : CallC := callCg gl 1 uVo uPq uKi (uKh uPp)
theorem put1Step {gl : Tr (List AV)} (hg : GlOk gl) (z : uNb) (hp : uKi z) : callW PP (runW PP (KLY [(27, chkK), (28, uQs gl)] [] [82, 26] [] [] [(12, [9, 12])]) 200) 12 (uVo.cells id z.1) (stL false (uPq.obs id z.2) gl) (fun v st => resAny 1 z v st (uKh uPp)) := by
 obtain ⟨⟨_, u, _⟩, ⟨⟨d, r, c, t, a, _, _⟩, T, A, _⟩⟩ := z
 refine (put1Fn gl u d r c t a T A _).mpr ?_
 obtain ⟨V, hV, hV60, hV0⟩ := hp
 refine ⟨u, Wk.refl _, trivial, ?_⟩
 rw [ifp_ne]
 split
 ·rename_i h
  obtain ⟨h1, h2, hlen⟩ := uCp h
  obtain ⟨_, rfl, hl, rfl, rfl, rfl, rfl, hA, hv⟩ := hV
  obtain ⟨D, rfl⟩ := Int.eq_ofNat_of_zero_le (show 0 ≤ d by omega)
  have hlen' : u.length = D := by omega
  have hAl : A.length = V.length * D := by rw [hA]; exact uHj fun v hm => by have := hv v hm; omega
  refine ⟨rfl, [ones V.length], rfl, A, rfl, rfl, ⟨rfl, V.length, by omega, rfl⟩, fun c1 d1 hr => ?_, trivial⟩
  obtain ⟨q, _⟩ := c1
  obtain ⟨⟨d2, r2, c2, t2, a2, _, _⟩, T2, A2, _⟩ := d1
  obtain ⟨rfl, rfl, rfl, rfl, rfl, rfl, rfl, hq⟩ := hr
  obtain rfl : q = V.length := hq V.length (by omega) rfl
  dsimp only
  rw [ifp_le, if_neg (by omega)]
  have hD : V.length * D ≤ 60 * 1024 := Nat.mul_le_mul (by omega) (by omega)
  have hD2 : (V.length + 1) * D = V.length * D + D := Nat.succ_mul _ _
  have e1 : wrapF .i64 (Int.add (V.length : Int) 1) = ((V.length + 1 : Nat) : Int) := wsucc (by omega)
  have e2 : wrapF .i64 (Int.mul ((V.length + 1 : Nat) : Int) (D : Int)) = (((V.length + 1) * D : Nat) : Int) := uHu (by omega)
  have e3 : wrapF .i64 (Int.mul (V.length : Int) (D : Int)) = ((V.length * D : Nat) : Int) := uHu (by omega)
  have e4 : wrapF .i64 (Int.sub (((V.length + 1) * D : Nat) : Int) (Int.ofNat A2.length)) = (D : Int) := by
   simp only [Int.ofNat_eq_natCast]; rw [wsub (by omega) (by omega)]; omega
  have e5 : wrapF .i64 (Int.tdiv (V.length : Int) 64) = ((0 : Nat) : Int) := by
   rw [show Int.tdiv (V.length : Int) 64 = ((V.length / 64 : Nat) : Int) from rfl, show V.length / 64 = 0 by omega]; rfl
  have e6 : Int.tmod (V.length : Int) 64 = (V.length : Int) := by
   rw [show Int.tmod (V.length : Int) 64 = ((V.length % 64 : Nat) : Int) from rfl, Nat.mod_eq_of_lt (by omega)]
  simp only [e1, e2, e3, e4, e5, e6, natOf_nat]
  have hA2 : (A2.flatMap Ei16.f).length = A2.length := by rw [Enc.flen Ei16 A2]; show A2.length * 1 = _; omega
  have hmin : minN u.length (Nat.sub ((V.length + 1) * D) (V.length * D)) = D := by rw [show Nat.sub ((V.length + 1) * D) (V.length * D) = D by show (V.length + 1) * D - V.length * D = D; omega, hlen', minN, show Nat.ble D D = true from ble_t (Nat.le_refl _), ifb_true]
  have htk : List.take (Nat.mul D 1) (u.flatMap Ei16.f) = u.flatMap Ei16.f := by rw [List.take_of_length_le (by rw [Enc.flen Ei16 u, hlen']; exact Nat.le_refl _)]
  simp only [hmin, htk]
  refine ⟨by decide, by decide, trivial, trivial, trivial, by omega, by omega, by omega, roomy_small (by omega) (by decide), ?_⟩
  rw [ifp_pos (by rw [uH0]; rfl)]
  refine Or.inl ⟨by show A2.length < A2.length + D; omega, (by trivial), by rw [hA2]; exact Nat.mul_one _, roomy_small (by show A2.length + D ≤ _; omega) (by decide), by decide, ⟨by decide, by decide⟩, ones V.length, rfl, by decide, by omega, ⟨by decide, by decide⟩, Nat.le_refl _, trivial, trivial, ?_⟩
  have hs : (A2.flatMap Ei16.f ++ repl D [AV.int .i16 0]).length = A2.length + D := by
   rw [List.length_append, hA2, show repl D [AV.int .i16 0] = (List.replicate D (0 : Int)).flatMap Ei16.f from repl_enc (E := Ei16) (x := 0) D, Enc.flen, List.length_replicate]; show _ + D * 1 = _; omega
  have hu1 : (u.flatMap Ei16.f).length = D := by rw [Enc.flen Ei16 u, hlen']; exact Nat.mul_one _
  refine ⟨by omega, by show _ ≤ ((A2.length + D : Nat) : Int); omega, by omega, by omega, by omega, by omega, trivial, trivial, trivial, trivial, trivial, by rw [hu1]; show D * 1 ≤ D; omega, ?_⟩
  rw [ifp_pos (Enc.fscal Ei16 u)]
  have ho := eqInt_iff.1 (uCa uXq (show V.length < 64 by omega))
  refine ⟨by rw [hs, hu1]; show 0 + V.length * D * 1 + D ≤ _; omega, [ones (V.length + 1)], ?_, A2 ++ u, ?_, trivial, rfl, fun V' hV' => ?_⟩
  ·show [AV.int .u64 _] = [AV.int .u64 (ones (V.length + 1))]
   rw [← ho]; rfl
  ·rw [show Nat.add 0 (Nat.mul (V.length * D) 1) = A2.length by show 0 + V.length * D * 1 = _; omega, uR2 hlen']
  ·have hc' : V.length = V'.length := by have := hV'.c1; omega
   rw [putS, if_pos hlen]
   refine ⟨hV'.d1, rfl, by simp; omega, by simp [hc'], rfl, by simp [hc'], ?_, by rw [hV'.A1]; simp, fun w hw => ?_⟩
   ·rw [List.length_append, hlen']; rfl
   ·rcases List.mem_append.1 hw with hw | hw
    ·exact hV'.v1 w hw
    ·simp at hw; rw [hw]; exact hlen
 ·rename_i h
  exact ⟨T, rfl, A, rfl, (by trivial), rfl, fun V hV => by rw [putS, if_neg (uFp h hV.d1.1 hV.d1.2)]; exact hV⟩
theorem put1Cc {gl : Tr (List AV)} (hg : GlOk gl) : CcOk PP 12 (uXl gl) := call_okg hg.fr mixed (KLY_ok (cc_cons uX5 (cc_cons (leastCc hg) (cc_nil)))) rfl (put1Step hg)
abbrev uJ6 := Int × Int × Int × Unit × Unit × Unit × Unit
abbrev uGm := uB2 × (uJ6 × Unit)
noncomputable def uVp : Tel uB2 := .cons 0 (.ptr 0) (.cons 1 (.lst Ei16) (.nil))
noncomputable def uPt : BTel (uJ6 × Unit) := .cons (.row (.ji 0 (.ji 1 (.ji 2 (.cons 3 (.nilS) (.cons 4 (.nilS) (.cons 5 (.nilS) (.nil)))))))) (.nil)
abbrev uL7 := uJ6 × Unit
noncomputable def uKj (R0 : uGm → uA6 → uL7 → Prop) (R1 : uGm → uA6 → uAt → Prop) : List (Res uGm) := [⟨Int × Int × Unit, uL7, .ji 0 (.ji 1 (.nil)), .cons (.row (.ji 0 (.ji 1 (.ji 2 (.cons 3 (.nilS) (.cons 4 (.nilS) (.cons 5 (.nilS) (.nil)))))))) (.nil), R0⟩, ⟨Int × Int × Unit, uAt, .ji 0 (.ji 1 (.nil)), .cons uB3 (.cons (.rows Eu64 82) (.cons (.rows Ei16 26) (.nil))), R1⟩]
theorem put0Fn (u : List Int) (d r c : Int) (R0 : uGm → uA6 → uL7 → Prop) (R1 : uGm → uA6 → uAt → Prop) : (callW PP (runW PP (KLY [(27, chkK)] [] [82, 26] [] [] [(12, [12])]) 200) 12 (uVp.cells id ((), u, ())) (stL false (uPt.obs id ((d, r, c, (), (), (), ()), ()))) (fun v st => resAny 1 (((), u, ()), (d, r, c, (), (), (), ()), ()) v st (uKj R0 R1))) = ( ∃ l, Wv Ei16 u l ∧ uM2 (l, d, ()) ∧ ifp (!eqInt (vchk l d) 0) (true = true ∧ R0 (((), u, ()), (d, r, c, (), (), (), ()), ()) (0, vchk l d, ()) ((d, r, c, (), (), (), ()), ()) ∨ False) (ifp (leInt r 0) (true = true ∧ R0 (((), u, ()), (d, r, c, (), (), (), ()), ()) (0, 7, ()) ((d, r, c, (), (), (), ()), ()) ∨ False) ((64 : Int) ≠ 0 ∧ 1 ≤ 1 ∧ 1 ≠ 0 ∧ true = true ∧ True ∧ True ∧ True ∧ (0 : Int) < wrapF .i64 ((wrapF .i64 ((wrapF .i64 ((wrapF .i64 (Int.mul 0 64)).add 1)).mul d)).sub 0) ∧ (0 : Int) ≤ wrapF .i64 ((wrapF .i64 (Int.mul 1 d)).sub 0) ∧ wrapF .i64 ((wrapF .i64 (Int.mul 1 d)).sub 0) ≤ 16777216 ∧ roomy (natOf (wrapF .i64 ((wrapF .i64 ((wrapF .i64 ((wrapF .i64 (Int.mul 0 64)).add 1)).mul d)).sub 0))) 2 = true ∧ ifp (allScalar (repl (natOf (wrapF .i64 ((wrapF .i64 ((wrapF .i64 ((wrapF .i64 (Int.mul 0 64)).add 1)).mul d)).sub 0))) [AV.int .i16 0]) && true) (natOf (wrapF .i64 ((wrapF .i64 ((wrapF .i64 ((wrapF .i64 (Int.mul 0 64)).add 1)).mul d)).sub 0)) ≠ 0 ∧ roomy (natOf (wrapF .i64 ((wrapF .i64 ((wrapF .i64 ((wrapF .i64 (Int.mul 0 64)).add 1)).mul d)).sub 0))) 2 = true ∧ (64 : Int) ≠ 0 ∧ idxOk (wrapF .i64 ((wrapF .i64 (Int.mul 0 64)).tdiv 64)) 1 ∧ ∃ x : Int, some (AV.int .u64 0) = some (AV.int .u64 x) ∧ (64 : Int) ≠ 0 ∧ (0 : Int) ≤ (wrapF .i64 (Int.mul 0 64)).tmod 64 ∧ idxOk (wrapF .i64 ((wrapF .i64 (Int.mul 0 64)).tdiv 64)) 1 ∧ 1 ≤ 1 ∧ True ∧ True ∧ (0 : Int) ≤ wrapF .i64 (Int.mul 1 d) ∧ wrapF .i64 (Int.mul 1 d) ≤ ↑(natOf (wrapF .i64 ((wrapF .i64 ((wrapF .i64 ((wrapF .i64 (Int.mul 0 64)).add 1)).mul d)).sub 0))) ∧ (0 : Int) ≤ wrapF .i64 (Int.mul 1 d) ∧ wrapF .i64 (Int.mul 1 d) ≤ ↑(natOf (wrapF .i64 ((wrapF .i64 ((wrapF .i64 (Int.mul 0 64)).add 1)).mul d))) ∧ (0 : Int) ≤ wrapF .i64 (Int.mul 0 d) ∧ wrapF .i64 (Int.mul 0 d) ≤ ↑(natOf (wrapF .i64 ((wrapF .i64 ((wrapF .i64 (Int.mul 0 64)).add 1)).mul d))) ∧ True ∧ True ∧ True ∧ True ∧ True ∧ (minN u.length ((natOf (wrapF .i64 ((wrapF .i64 ((wrapF .i64 (Int.mul 0 64)).add 1)).mul d))).sub (natOf (wrapF .i64 ((wrapF .i64 (Int.mul 0 64)).mul d))))).mul 1 ≤ (u.flatMap Ei16.f).length ∧ ifp (allScalar (List.take ((minN u.length ((natOf (wrapF .i64 ((wrapF .i64 ((wrapF .i64 (Int.mul 0 64)).add 1)).mul d))).sub (natOf (wrapF .i64 ((wrapF .i64 (Int.mul 0 64)).mul d))))).mul 1) (u.flatMap Ei16.f))) ((Nat.add 0 ((natOf (wrapF .i64 ((wrapF .i64 (Int.mul 0 64)).mul d))).mul 1)).add (List.take ((minN u.length ((natOf (wrapF .i64 ((wrapF .i64 ((wrapF .i64 (Int.mul 0 64)).add 1)).mul d))).sub (natOf (wrapF .i64 ((wrapF .i64 (Int.mul 0 64)).mul d))))).mul 1) (u.flatMap Ei16.f)).length ≤ (repl (natOf (wrapF .i64 ((wrapF .i64 ((wrapF .i64 ((wrapF .i64 (Int.mul 0 64)).add 1)).mul d)).sub 0))) [AV.int .i16 0]).length ∧ (False ∨ ∃ (l : List Int), setAt 0 [AV.int .u64 (wrapF .u64 (Int.ofNat ((natOf (uns (modOf .u64) x)).lor (natOf (uns (modOf .u64) (shlV .u64 1 ((wrapF .i64 (Int.mul 0 64)).tmod 64)))))))] [AV.int .u64 0] = l.flatMap Eu64.f ∧ ∃ (l_1 : List Int), setAt (Nat.add 0 ((natOf (wrapF .i64 ((wrapF .i64 (Int.mul 0 64)).mul d))).mul 1)) (List.take ((minN u.length ((natOf (wrapF .i64 ((wrapF .i64 ((wrapF .i64 (Int.mul 0 64)).add 1)).mul d))).sub (natOf (wrapF .i64 ((wrapF .i64 (Int.mul 0 64)).mul d))))).mul 1) (u.flatMap Ei16.f)) (repl (natOf (wrapF .i64 ((wrapF .i64 ((wrapF .i64 ((wrapF .i64 (Int.mul 0 64)).add 1)).mul d)).sub 0))) [AV.int .i16 0]) = l_1.flatMap Ei16.f ∧ true = true ∧ R1 (((), u, ()), (d, r, c, (), (), (), ()), ()) (0, 0, ()) ((d, r, wrapF .i64 (c.add 1), (1, 1), (natOf (wrapF .i64 ((wrapF .i64 ((wrapF .i64 ((wrapF .i64 (Int.mul 0 64)).add 1)).mul d)).sub 0)), natOf (wrapF .i64 ((wrapF .i64 ((wrapF .i64 ((wrapF .i64 (Int.mul 0 64)).add 1)).mul d)).sub 0))), (), ()), l, l_1, ()))) False) False))) := by kernel_rfl
def uKk : uGm → Prop := fun (((), u, ()), (d, r, c, (), (), (), ()), ()) => 1 ≤ d ∧ d ≤ 1024 ∧ r = 60 ∧ c = 0
def uPs : uGm → uA6 → uL7 → Prop := fun (((), u, ()), (d, r, c, (), (), (), ()), ()) _ ((d2, r2, c2, _), _) => d2 = d ∧ r2 = r ∧ c2 = c ∧ (u.length : Int) ≠ d
def uPr : uGm → uA6 → uAt → Prop := fun (((), u, ()), (d, r, c, (), (), (), ()), ()) _ ((d2, r2, c2, t2, a2, _), T2, A2, _) => d2 = d ∧ (u.length : Int) = d ∧ SlOk d r2 c2 t2 a2 T2 A2 [u]
noncomputable def uXm : CallC := callC 1 uVp uPt uKk (uKj uPs uPr)
theorem put0Step (z : uGm) (hp : uKk z) : callW PP (runW PP (KLY [(27, chkK)] [] [82, 26] [] [] [(12, [12])]) 200) 12 (uVp.cells id z.1) (stL false (uPt.obs id z.2)) (fun v st => resAny 1 z v st (uKj uPs uPr)) := by
 obtain ⟨⟨_, u, _⟩, ⟨⟨d, r, c, _, _, _, _⟩, _⟩⟩ := z
 refine (put0Fn u d r c _ _).mpr ?_
 obtain ⟨h1, h2, rfl, rfl⟩ := hp
 refine ⟨u, Wk.refl _, trivial, ?_⟩
 rw [ifp_ne]
 split
 ·rename_i h
  obtain ⟨_, _, hlen⟩ := uCp h
  obtain ⟨D, rfl⟩ := Int.eq_ofNat_of_zero_le (show 0 ≤ d by omega)
  have hlen' : u.length = D := by omega
  rw [ifp_le, if_neg (by omega)]
  have e0 : wrapF .i64 (Int.mul 0 64) = ((0 : Nat) : Int) := rfl
  have e1 : wrapF .i64 (Int.add ((0 : Nat) : Int) 1) = ((1 : Nat) : Int) := rfl
  have e2 : wrapF .i64 (Int.mul ((1 : Nat) : Int) (D : Int)) = ((D : Nat) : Int) := by rw [uHu (by omega), Nat.one_mul]
  have e2' : wrapF .i64 (Int.mul 1 (D : Int)) = ((D : Nat) : Int) := e2
  have e3 : wrapF .i64 (Int.mul ((0 : Nat) : Int) (D : Int)) = ((0 : Nat) : Int) := by rw [uHu (by omega), Nat.zero_mul]
  have e3' : wrapF .i64 (Int.mul 0 (D : Int)) = ((0 : Nat) : Int) := e3
  have e4 : wrapF .i64 (Int.sub (D : Int) 0) = (D : Int) := by rw [wsub (by omega) (by omega)]; omega
  have e5 : wrapF .i64 (Int.tdiv ((0 : Nat) : Int) 64) = ((0 : Nat) : Int) := rfl
  have e6 : Int.tmod ((0 : Nat) : Int) 64 = ((0 : Nat) : Int) := rfl
  simp only [e0, e1, e2, e2', e3, e3', e4, e5, e6, natOf_nat]
  have hmin : minN u.length (Nat.sub D 0) = D := by rw [show Nat.sub D 0 = D from rfl, hlen', minN, show Nat.ble D D = true from ble_t (Nat.le_refl _), ifb_true]
  have htk : List.take (Nat.mul D 1) (u.flatMap Ei16.f) = u.flatMap Ei16.f := by rw [List.take_of_length_le (by rw [Enc.flen Ei16 u, hlen']; exact Nat.le_refl _)]
  simp only [hmin, htk]
  have hu1 : (u.flatMap Ei16.f).length = D := by rw [Enc.flen Ei16 u, hlen']; exact Nat.mul_one _
  have hs : (repl D [AV.int .i16 0]).length = D := by
   rw [show repl D [AV.int .i16 0] = (List.replicate D (0 : Int)).flatMap Ei16.f from repl_enc (E := Ei16) (x := 0) D, Enc.flen, List.length_replicate]; exact Nat.mul_one _
  refine ⟨by decide, Nat.le_refl _, by decide, trivial, trivial, trivial, trivial, by omega, by omega, by omega, roomy_small (by omega) (by decide), ?_⟩
  rw [ifp_pos (by rw [uH0]; rfl)]
  refine ⟨by omega, roomy_small (by omega) (by decide), by decide, ⟨by decide, by decide⟩, 0, rfl, by decide, by omega, ⟨by decide, by decide⟩, Nat.le_refl _, trivial, trivial, by omega, by omega, by omega, by omega, by omega, by omega, trivial, trivial, trivial, trivial, trivial, by rw [hu1]; show D * 1 ≤ D; omega, ?_⟩
  rw [ifp_pos (Enc.fscal Ei16 u)]
  have ho := eqInt_iff.1 (uCa uXq (show 0 < 64 by omega))
  have ha := uR2 (A := []) hlen'
  refine ⟨by rw [hs, hu1]; show 0 + 0 * 1 + D ≤ _; omega, Or.inr ⟨[ones 1], ?_, u, ?_, trivial, rfl, hlen, ?_⟩⟩
  ·show [AV.int .u64 _] = [AV.int .u64 (ones (0 + 1))]
   rw [← ho]; rfl
  ·exact ha
  ·exact ⟨⟨h1, h2⟩, rfl, by simp, rfl, rfl, rfl, by rw [hlen'], by simp, fun w hw => by simp at hw; rw [hw]; exact hlen⟩
 ·rename_i h
  exact Or.inl ⟨(by trivial), rfl, rfl, rfl, uFp h h1 h2⟩
theorem put0Cc : CcOk PP 12 uXm := call_ok mixed (KLY_ok (cc_cons uX5 (cc_nil))) rfl put0Step
abbrev uJ5 := Int × Int × (Nat × Nat) × Unit × Unit
abbrev uC9 := (Unit × (List Int) × Int × Unit) × (uJ5 × (List (List Int)) × Unit)
noncomputable def uJp : Tel (Unit × (List Int) × Int × Unit) := .cons 0 (.ptr 0) (.cons 1 (.lst Ei16) (.ji 7 (.nil)))
noncomputable abbrev uEc := Bk.row (.ji 0 (.ji 1 (.cons 2 (.slq 1 1) (.cons 3 (.nilS) (.nil)))))
noncomputable def uJs : BTel (uJ5 × (List (List Int)) × Unit) := .cons uEc (.cons (.rowsW Evl 23) (.nil))
noncomputable def uJr : List (LForm uC9) := [⟨_, _, uJp, uJs, fun x y => (x, y)⟩]
abbrev uL6 := Unit × (List Int) × Int × Unit
abbrev uBh := uJ5 × (List (List Int)) × Unit
noncomputable def uD6 (R0 : uC9 → uL6 → uBh → Prop) : List (Alt uC9) := [⟨.exit 0, uL6, uBh, .cons 0 (.ptr 0) (.cons 1 (.lst Ei16) (.ji 7 (.nil))), .cons uEc (.cons (.rowsW Evl 23) (.nil)), R0⟩]
theorem rputLForm (v : List Int) (k D R : Int) (V : Nat × Nat) (W : List (List Int)) (N : uC9 → Prop) (R0 : uC9 → uL6 → uBh → Prop) : ((runW PP (KLX [] [] [23] [] []) 100).code none 16 68 (loopBody PP 16 5) (mkT (uJp.av id ((), v, k, ()))) [] (stL true (uJs.obs id ((D, R, V, (), ()), W, ())) .leaf (fun u => hasT u [23])) (postL 2 uJr (uD6 R0) (((), v, k, ()), (D, R, V, (), ()), W, ()) N)) = ( ifp (!leInt (Int.ofNat V.1) k) (idxOk k V.1 ∧ ∃ l' n c x w e, nth (Nat.add 0 ((natOf k).mul 1)) (W.flatMap Evl.f) = some (AV.vs l' n c x w e) ∧ n ≠ 0 ∧ True ∧ ∃ l, Wv Ei16 v l ∧ ∃ (l_1 : List (List Int)), WkL (W.flatMap Evl.f) (l_1.flatMap Evl.f) ∧ true = true ∧ N (((), l, wrapF .i64 (k.add 1), ()), (D, R, V, (), ()), l_1, ())) (True ∧ ∃ l, Wv Ei16 v l ∧ ∃ (l_1 : List (List Int)), WkL (W.flatMap Evl.f) (l_1.flatMap Evl.f) ∧ true = true ∧ R0 (((), v, k, ()), (D, R, V, (), ()), W, ()) ((), l, k, ()) ((D, R, V, (), ()), l_1, ()))) := by kernel_rfl
def uF1 : uC9 → Prop := fun (((), v, k, ()), (D, R, V, (), ()), W, ()) => ∃ q : Nat, k = q ∧ q ≤ W.length ∧ V = (W.length, W.length) ∧ W.length ≤ 60 ∧ (∀ v ∈ W, v.length ≠ 0)
def uOi : uC9 → Nat := fun (((), v, k, ()), (D, R, V, (), ()), W, ()) => W.length - k.toNat
def uJq : uC9 → uL6 → uBh → Prop := fun (((), v, k, ()), (D, R, V, (), ()), W, ()) (_, v2, k2, _) ((D2, R2, V2, _), W2, _) => v2 = v ∧ k2 = W.length ∧ D2 = D ∧ R2 = R ∧ V2 = V ∧ W2 = W
noncomputable def uLs : LoopC := loopC 2 uJr (uD6 uJq) uF1
theorem rputLStep : stepsOk PP (KLX [] [] [23] [] []) 100 16 68 (loopBody PP 16 5) 2 true uJr (uD6 uJq) uF1 uOi ⟨_, _, uJp, uJs, fun x y => (x, y)⟩ .leaf (fun u => hasT u [23]) := by
 intro x y hz
 obtain ⟨_, v, k, _⟩ := x
 obtain ⟨⟨D, R, V, _, _⟩, W, _⟩ := y
 refine (rputLForm v k D R V W _ _).mpr ?_
 obtain ⟨q, rfl, hq, rfl, hl, hv⟩ := hz
 rw [ifp_lt]
 simp only [natOf_nat]
 split
 ·rename_i h
  have hql : q < W.length := by simpa using h
  refine ⟨idx_ok hql, _, _, _, _, _, _, by rw [show Nat.add 0 (Nat.mul q 1) = Nat.mul q 1 from Nat.zero_add _]; exact nth_lst hql, hv _ (List.getElem_mem hql), trivial, v, Wk.refl _, W, WkL.refl _, (by trivial), ?_⟩
  rw [wsucc (by omega)]
  exact ⟨⟨q + 1, rfl, hql, rfl, hl, hv⟩, by show W.length - (q + 1) < W.length - q; omega, fun _ _ h => h, trivial⟩
 ·rename_i h
  have hql : ¬ q < W.length := by simpa using h
  refine ⟨trivial, v, Wk.refl _, W, WkL.refl _, (by trivial), rfl, ?_, rfl, rfl, rfl, rfl⟩
  show (q : Int) = W.length
  omega
theorem rputLOk : LoopOk PP 16 68 (.loop (loopBody PP 16 5)) (uLs) := loop_ok uOi  mixed (KLX_ok (cc_nil)) rfl (steps_cons rputLStep (steps_nil))
abbrev uD7 := uB2 × uBh
noncomputable def uOk : Tel uB2 := .cons 0 (.ptr 0) (.cons 1 (.lst Ei16) (.nil))
noncomputable def uJu : BTel uBh := .cons uEc (.cons (.rowsW Evl 23) (.nil))
noncomputable def uF2 (R0 : uD7 → uA6 → uBh → Prop) : List (Res uD7) := [⟨Int × Int × Unit, uBh, .ji 0 (.ji 1 (.nil)), .cons uEc (.cons (.rowsW Evl 23) (.nil)), R0⟩]
abbrev uE4 (u : List Int) (D R : Int) (V : Nat × Nat) (W : List (List Int)) : uD7 := (((), u, ()), (D, R, V, (), ()), W, ())
theorem rput1Fn (u : List Int) (D R : Int) (V : Nat × Nat) (W : List (List Int)) (R0 : uD7 → uA6 → uBh → Prop) : (callW PP (runW PP (KLX [(30, uOz)] [(16, [(5, uLs)])] [23] [] []) 200) 16 (uOk.cells id ((), u, ())) (stL true (uJu.obs id ((D, R, V, (), ()), W, ())) .leaf (fun u => hasT u [23])) (fun v st => resAny 1 (uE4 u D R V W) v st (uF2 R0))) = ( ∃ l, Wv Ei16 u l ∧ uGb (l, D, ()) ∧ ifp (!eqInt (vchk l D) 0) (∃ (l_1 : List (List Int)), WkL (W.flatMap Evl.f) (l_1.flatMap Evl.f) ∧ true = true ∧ R0 (uE4 u D R V W) (0, vchk l D, ()) ((D, R, V, (), ()), l_1, ())) (LoopOk PP 16 68 (loopBody PP 16 5).loop uLs ∧ True ∧ True ∧ ∃ l, Wv Ei16 u l ∧ ∃ (l_1 : List (List Int)), WkL (W.flatMap Evl.f) (l_1.flatMap Evl.f) ∧ true = true ∧ uF1 (((), l, 0, ()), (D, R, V, (), ()), l_1, ()) ∧ (∀ c d, uJq (((), l, 0, ()), (D, R, V, (), ()), l_1, ()) c d → ifp (leInt d.1.2.1 c.2.2.1) (∃ (l : List (List Int)), WkL (List.flatMap Evl.f d.2.1) (l.flatMap Evl.f) ∧ true = true ∧ R0 (uE4 u D R V W) (0, 7, ()) ((d.1.1, d.1.2.1, d.1.2.2.1, (), ()), l, ())) (ifp (eqInt c.2.2.1 (Int.ofNat d.1.2.2.1.1)) (1 ≤ 1 ∧ (d.1.2.2.1.2 < d.1.2.2.1.1.add 1 ∧ 0 = 0 ∧ d.1.2.2.1.1.mul 1 = (List.flatMap Evl.f d.2.1).length ∧ roomy (d.1.2.2.1.1.add 1) 24 = true ∧ (List.flatMap Ei16.f c.2.1).length = c.2.1.length.mul 1 ∧ ifp (allScalar (List.flatMap Ei16.f c.2.1) && true) (ifp (roomy (Nat.add 0 c.2.1.length) 2) (idxOk c.2.2.1 (d.1.2.2.1.1.add 1) ∧ (Nat.add 0 ((natOf c.2.2.1).mul 1)).add 1 ≤ (List.flatMap Evl.f d.2.1 ++ [AV.nilSlice]).length ∧ (AV.slice 3 0 (d.1.2.2.1.1.add 1) (d.1.2.2.1.1.add 1) false 1 = AV.slice 3 0 (d.1.2.2.1.1.add 1) (d.1.2.2.1.1.add 1) false 1 ∧ True) ∧ ∃ (l : List (List Int)), WkL (setAt (Nat.add 0 ((natOf c.2.2.1).mul 1)) [AV.vs ([] ++ List.flatMap Ei16.f c.2.1) (Nat.add 0 c.2.1.length) (Nat.add 0 c.2.1.length) false (some 14) 1] (List.flatMap Evl.f d.2.1 ++ [AV.nilSlice])) (l.flatMap Evl.f) ∧ true = true ∧ R0 (uE4 u D R V W) (c.2.2.1, 0, ()) ((d.1.1, d.1.2.1, (d.1.2.2.1.1.add 1, d.1.2.2.1.1.add 1), (), ()), l, ())) False) False ∨ d.1.2.2.1.1.add 1 ≤ d.1.2.2.1.2 ∧ 1 ≠ 0 ∧ (Nat.add 0 (d.1.2.2.1.1.mul 1)).add 1 ≤ (List.flatMap Evl.f d.2.1).length ∧ (List.flatMap Ei16.f c.2.1).length = c.2.1.length.mul 1 ∧ ifp (allScalar (List.flatMap Ei16.f c.2.1) && true) (ifp (roomy (Nat.add 0 c.2.1.length) 2) (idxOk c.2.2.1 (d.1.2.2.1.1.add 1) ∧ (Nat.add 0 ((natOf c.2.2.1).mul 1)).add 1 ≤ (setAt (Nat.add 0 (d.1.2.2.1.1.mul 1)) [AV.nilSlice] (List.flatMap Evl.f d.2.1)).length ∧ (AV.slice 1 0 (d.1.2.2.1.1.add 1) d.1.2.2.1.2 false 1 = AV.slice 1 0 (d.1.2.2.1.1.add 1) d.1.2.2.1.2 false 1 ∧ True) ∧ ∃ (l : List (List Int)), WkL (setAt (Nat.add 0 ((natOf c.2.2.1).mul 1)) [AV.vs ([] ++ List.flatMap Ei16.f c.2.1) (Nat.add 0 c.2.1.length) (Nat.add 0 c.2.1.length) false (some 13) 1] (setAt (Nat.add 0 (d.1.2.2.1.1.mul 1)) [AV.nilSlice] (List.flatMap Evl.f d.2.1))) (l.flatMap Evl.f) ∧ true = true ∧ R0 (uE4 u D R V W) (c.2.2.1, 0, ()) ((d.1.1, d.1.2.1, (d.1.2.2.1.1.add 1, d.1.2.2.1.2), (), ()), l, ())) False) False)) ((List.flatMap Ei16.f c.2.1).length = c.2.1.length.mul 1 ∧ ifp (allScalar (List.flatMap Ei16.f c.2.1) && true) (ifp (roomy (Nat.add 0 c.2.1.length) 2) (idxOk c.2.2.1 d.1.2.2.1.1 ∧ (Nat.add 0 ((natOf c.2.2.1).mul 1)).add 1 ≤ (List.flatMap Evl.f d.2.1).length ∧ (AV.slice 1 0 d.1.2.2.1.1 d.1.2.2.1.2 false 1 = AV.slice 1 0 d.1.2.2.1.1 d.1.2.2.1.2 false 1 ∧ True) ∧ ∃ (l : List (List Int)), WkL (setAt (Nat.add 0 ((natOf c.2.2.1).mul 1)) [AV.vs ([] ++ List.flatMap Ei16.f c.2.1) (Nat.add 0 c.2.1.length) (Nat.add 0 c.2.1.length) false (some 12) 1] (List.flatMap Evl.f d.2.1)) (l.flatMap Evl.f) ∧ true = true ∧ R0 (uE4 u D R V W) (c.2.2.1, 0, ()) ((d.1.1, d.1.2.1, d.1.2.2.1, (), ()), l, ())) False) False))) ∧ True)) := by kernel_rfl
def uF3 : uD7 → Prop := fun (((), u, ()), (D, R, V, (), ()), W, ()) => 1 ≤ D ∧ D ≤ 1024 ∧ R = 60 ∧ V = (W.length, W.length) ∧ W.length < 60 ∧ (∀ v ∈ W, v.length ≠ 0)
def uJt : uD7 → uA6 → uBh → Prop := fun (((), u, ()), (D, R, V, (), ()), W, ()) _ ((D2, R2, V2, _), W2, _) => D2 = D ∧ R2 = R ∧ V2 = (W2.length, W2.length) ∧ W2 = putS D W u
noncomputable def uS4 : CallC := callC 1 uOk uJu uF3 (uF2 uJt)
theorem rput1Step (z : uD7) (hp : uF3 z) : callW PP (runW PP (KLX [(30, uOz)] [(16, [(5, uLs)])] [23] [] []) 200) 16 (uOk.cells id z.1) (stL true (uJu.obs id z.2) .leaf (fun u => hasT u [23])) (fun v st => resAny 1 z v st (uF2 uJt)) := by
 obtain ⟨⟨_, u, _⟩, ⟨⟨D, R, V, _, _⟩, W, _⟩⟩ := z
 refine (rput1Fn u D R V W _).mpr ?_
 obtain ⟨h1, h2, rfl, rfl, hW, hv⟩ := hp
 refine ⟨u, Wk.refl _, trivial, ?_⟩
 rw [ifp_ne]
 split
 ·rename_i h
  obtain ⟨_, _, hlen⟩ := uCp h
  refine ⟨rputLOk, trivial, trivial, u, Wk.refl _, W, WkL.refl _, (by trivial), ⟨0, rfl, Nat.zero_le _, rfl, by omega, hv⟩, fun c1 d1 hr => ?_, trivial⟩
  obtain ⟨_, u2, k2, _⟩ := c1
  obtain ⟨⟨D2, R2, V2, _, _⟩, W2, _⟩ := d1
  obtain ⟨rfl, rfl, rfl, rfl, rfl, rfl⟩ := hr
  dsimp only
  rw [ifp_le, if_neg (by omega), ifp_eq, if_pos (show ((W2.length : Nat) : Int) = Int.ofNat W2.length from rfl)]
  simp only [natOf_nat]
  have hWl : (W2.flatMap Evl.f).length = W2.length := by rw [Enc.flen Evl W2]; exact Nat.mul_one _
  refine ⟨Nat.le_refl _, Or.inl ⟨Nat.lt_succ_self _, (by trivial), by rw [hWl]; exact Nat.mul_one _, roomy_small (by show W2.length + 1 ≤ _; omega) (by decide), Enc.flen Ei16 u2, ?_⟩⟩
  rw [ifp_pos (by rw [Enc.fscal Ei16 u2]; rfl), ifp_pos (roomy_small (by simp only [Nat.add_eq]; omega) (by decide))]
  refine ⟨⟨by omega, by show (W2.length : Int) < ((W2.length + 1 : Nat) : Int); omega⟩, by rw [List.length_append, hWl]; show 0 + W2.length * 1 + 1 ≤ W2.length + 1; omega, ⟨(by trivial), trivial⟩, W2 ++ [u2], ?_, (by trivial), rfl, rfl, by simp, by rw [putS, if_pos hlen]⟩
  rw [show Nat.add 0 (Nat.mul W2.length 1) = (W2.flatMap Evl.f).length by rw [hWl]; show 0 + W2.length * 1 = _; omega, setAt, List.take_left, List.drop_of_length_le (by simp), List.append_nil]
  exact wkl_snoc (E := Evl) ⟨wk_vs ⟨rfl, by simp, rfl⟩, trivial⟩
 ·rename_i h
  exact ⟨W, WkL.refl _, (by trivial), rfl, rfl, rfl, by rw [putS, if_neg (uFp h h1 h2)]⟩
theorem rput1Cc : CcOk PP 16 uS4 := call_ok mixed (KLX_ok (cc_cons uS9 (cc_nil))) rfl rput1Step
abbrev uJ4 := Int × Int × Unit × Unit × Unit
abbrev uCq := uB2 × (uJ4 × Unit)
noncomputable def uOl : Tel uB2 := .cons 0 (.ptr 0) (.cons 1 (.lst Ei16) (.nil))
noncomputable def uJv : BTel (uJ4 × Unit) := .cons (.row (.ji 0 (.ji 1 (.cons 2 (.nilS) (.cons 3 (.nilS) (.nil)))))) (.nil)
abbrev uL5 := uJ4 × Unit
noncomputable def uF4 (R0 : uCq → uA6 → uL5 → Prop) (R1 : uCq → uA6 → uBh → Prop) : List (Res uCq) := [⟨Int × Int × Unit, uL5, .ji 0 (.ji 1 (.nil)), .cons (.row (.ji 0 (.ji 1 (.cons 2 (.nilS) (.cons 3 (.nilS) (.nil)))))) (.nil), R0⟩, ⟨Int × Int × Unit, uBh, .ji 0 (.ji 1 (.nil)), .cons uEc (.cons (.rowsW Evl 23) (.nil)), R1⟩]
theorem rput0Fn (u : List Int) (D R : Int) (R0 : uCq → uA6 → uL5 → Prop) (R1 : uCq → uA6 → uBh → Prop) : (callW PP (runW PP (KLX [(30, uOz)] [] [23] [] []) 200) 16 (uOl.cells id ((), u, ())) (stL true (uJv.obs id ((D, R, (), (), ()), ())) .leaf (fun u => hasT u [23])) (fun v st => resAny 1 (((), u, ()), (D, R, (), (), ()), ()) v st (uF4 R0 R1))) = ( ∃ l, Wv Ei16 u l ∧ uGb (l, D, ()) ∧ ifp (!eqInt (vchk l D) 0) (true = true ∧ R0 (((), u, ()), (D, R, (), (), ()), ()) (0, vchk l D, ()) ((D, R, (), (), ()), ()) ∨ False) (ifp (leInt R 0) (true = true ∧ R0 (((), u, ()), (D, R, (), (), ()), ()) (0, 7, ()) ((D, R, (), (), ()), ()) ∨ False) (1 ≤ 1 ∧ 1 ≠ 0 ∧ true = true ∧ (u.flatMap Ei16.f).length = u.length.mul 1 ∧ ifp (allScalar (u.flatMap Ei16.f) && true) (ifp (roomy (Nat.add 0 u.length) 2) (idxOk 0 1 ∧ 1 ≤ 1 ∧ (AV.slice 2 0 1 1 false 1 = AV.slice 2 0 1 1 false 1 ∧ True) ∧ (False ∨ ∃ (l : List (List Int)), WkL (setAt 0 [AV.vs ([] ++ u.flatMap Ei16.f) (Nat.add 0 u.length) (Nat.add 0 u.length) false (some 13) 1] [AV.nilSlice]) (l.flatMap Evl.f) ∧ true = true ∧ R1 (((), u, ()), (D, R, (), (), ()), ()) (0, 0, ()) ((D, R, (1, 1), (), ()), l, ()))) False) False))) := by kernel_rfl
def uDn : uCq → Prop := fun (((), u, ()), (D, R, (), (), ()), ()) => 1 ≤ D ∧ D ≤ 1024 ∧ R = 60
def uF6 : uCq → uA6 → uL5 → Prop := fun (((), u, ()), (D, R, (), (), ()), ()) _ ((D2, R2, _), _) => D2 = D ∧ R2 = R ∧ (u.length : Int) ≠ D
def uF5 : uCq → uA6 → uBh → Prop := fun (((), u, ()), (D, R, (), (), ()), ()) _ ((D2, R2, V2, _), W2, _) => D2 = D ∧ R2 = R ∧ V2 = (1, 1) ∧ (u.length : Int) = D ∧ W2 = [u]
noncomputable def uS5 : CallC := callC 1 uOl uJv uDn (uF4 uF6 uF5)
theorem rput0Step (z : uCq) (hp : uDn z) : callW PP (runW PP (KLX [(30, uOz)] [] [23] [] []) 200) 16 (uOl.cells id z.1) (stL true (uJv.obs id z.2) .leaf (fun u => hasT u [23])) (fun v st => resAny 1 z v st (uF4 uF6 uF5)) := by
 obtain ⟨⟨_, u, _⟩, ⟨⟨D, R, _, _, _⟩, _⟩⟩ := z
 refine (rput0Fn u D R _ _).mpr ?_
 obtain ⟨h1, h2, rfl⟩ := hp
 refine ⟨u, Wk.refl _, trivial, ?_⟩
 rw [ifp_ne]
 split
 ·rename_i h
  obtain ⟨_, _, hlen⟩ := uCp h
  rw [ifp_le, if_neg (by omega)]
  refine ⟨Nat.le_refl _, by decide, (by trivial), Enc.flen Ei16 u, ?_⟩
  rw [ifp_pos (by rw [Enc.fscal Ei16 u]; rfl), ifp_pos (roomy_small (by simp only [Nat.add_eq]; omega) (by decide))]
  exact ⟨⟨by decide, by decide⟩, Nat.le_refl _, ⟨rfl, trivial⟩, Or.inr ⟨[u], ⟨wk_vs ⟨rfl, by simp, rfl⟩, trivial⟩, (by trivial), rfl, rfl, rfl, hlen, rfl⟩⟩
 ·rename_i h
  exact Or.inl ⟨(by trivial), rfl, rfl, uFp h h1 h2⟩
theorem rput0Cc : CcOk PP 16 uS5 := call_ok mixed (KLX_ok (cc_cons uS9 (cc_nil))) rfl rput0Step
end Go.Proofs.YteehkdejkemnmaaDoor
namespace Go.Proofs.YteehkdejkemnmaaDoor
open Go.Det Go.RowKit
set_option maxRecDepth 100000
def mayC (c : Cd) : Bool := decide (0 ≤ c.2.1) && decide (c.2.1 ≤ 70368744177664) && (decide (0 ≤ c.2.2.1) && decide (c.2.2.1 ≤ 281474976710656))
theorem uCd {c : Cd} : mayC c = true ↔ (0 ≤ c.2.1 ∧ c.2.1 ≤ 70368744177664) ∧ (0 ≤ c.2.2.1 ∧ c.2.2.1 ≤ 281474976710656) := by simp [mayC]
theorem uGy {c : Cd} (h : mayC c = true) : lowV c = c.2.1 - c.2.2.1 := by
 obtain ⟨h1, h2⟩ := uCd.1 h
 exact wsub (by omega) (by omega)
noncomputable def uV7 : Tel (Cd × Unit) := .cons 0 (.agg Ec) (.nil)
theorem mayfFn (c : Cd) (Q : AV → Prop) : (callW PP (runW PP (KL [] []) 200) 52 (uV7.cells id (c, ())) (stE false) (fun x st => frzW st x Q)) = ( ifp (leInt 0 (ifb (leInt c.2.1 c.2.2.1) c.2.1 c.2.2.1)) (ifp (leInt c.2.1 70368744177664) (ifp (leInt c.2.2.1 281474976710656) (ifp (leInt (wrapF .i64 (c.2.1.sub c.2.2.1)) 4611686018427387904) (Q (AV.bool false)) (Q (AV.bool true))) (Q (AV.bool true))) (Q (AV.bool true))) (Q (AV.bool true))) := by kernel_rfl
def uGx : Cd × Unit → Prop := fun (c, ()) => True
noncomputable def uP9 : Cd × Unit → AV := fun (c, ()) => .bool (!mayC c)
noncomputable def uQa : CallC := valC uV7 uGx uP9
theorem mayfVal (c : Cd) (hp : uGx (c, ())) : Val PP 52 (uV7.cells id (c, ())) (uP9 (c, ())) := by
 refine Val.ofF mixed (KL_ok (cc_nil)) (freesC rfl _) (mayfFn c) ?_
 have hmn : ifb (leInt c.2.1 c.2.2.1) c.2.1 c.2.2.1 = min c.2.1 c.2.2.1 := by
  rw [ifb_eq, leInt_eq]
  by_cases h : c.2.1 ≤ c.2.2.1
  ·rw [if_pos (by simpa using h)]; omega
  ·rw [if_neg (by simpa using h)]; omega
 rw [hmn, ifp_le, ifp_le, ifp_le, ifp_le]
 have no : ¬ ((0 ≤ c.2.1 ∧ c.2.1 ≤ 70368744177664) ∧ (0 ≤ c.2.2.1 ∧ c.2.2.1 ≤ 281474976710656)) → true = !mayC c := fun h => by
  have n : mayC c = false := by rw [← Bool.not_eq_true, uCd]; exact h
  rw [n]; rfl
 split
 ·rename_i h1
  split
  ·rename_i h2
   split
   ·rename_i h3
    have y : mayC c = true := uCd.2 ⟨⟨by omega, h2⟩, by omega, h3⟩
    rw [show wrapF .i64 (Int.sub c.2.1 c.2.2.1) = c.2.1 - c.2.2.1 from uGy y, if_pos (by omega)]
    exact tells_bool (by rw [y]; rfl)
   ·exact tells_bool (no (by omega))
  ·exact tells_bool (no (by omega))
 ·exact tells_bool (no (by omega))
theorem uTo : CcOk PP 52 uQa := val_ok rfl (fun ⟨c, _⟩ h => mayfVal c h)
abbrev uEl := ((List Cd) × Unit × Int × Int × Unit) × (Unit)
noncomputable def uQd : Tel ((List Cd) × Unit × Int × Int × Unit) := .cons 0 (.lst Ec) (.cons 1 (.fnp 52 []) (.ji 7 (.ji 8 (.nil))))
noncomputable def uQi : BTel (Unit) := .nil
noncomputable def uQh : List (LForm uEl) := [⟨_, _, uQd, uQi, fun x y => (x, y)⟩]
noncomputable def uG0 (R0 : uEl → (Unit) → (Unit) → Prop) (R1 : uEl → (Int × Unit) → (Unit) → Prop) : List (Alt uEl) := [⟨.exit 0, Unit, Unit, .nil, .nil, R0⟩, ⟨.ret, Int × Unit, Unit, .ji 4 (.nil), .nil, R1⟩]
theorem mayIForm (l : List Cd) (n i : Int) (N : uEl → Prop) (R0 : uEl → (Unit) → (Unit) → Prop) (R1 : uEl → (Int × Unit) → (Unit) → Prop) : ((runW PP (KL [(52, uQa)] []) 100).code none 63 19 (loopBody PP 63 2) (mkT (uQd.av id (l, (), n, i, ()))) [] (stL false (uQi.obs id ())) (postL 0 uQh (uG0 R0 R1) ((l, (), n, i, ()), ()) N)) = ( ifp (!leInt n i) (idxOk i l.length ∧ ∃ x, Nt Ec (natOf i) 4 0 l x ∧ ∃ x_1, Nt Ec (natOf i) 4 1 l x_1 ∧ ∃ x_2, Nt Ec (natOf i) 4 2 l x_2 ∧ ∃ x_3, Nt Ec (natOf i) 4 3 l x_3 ∧ ∃ a : Cd, Ag4 x x_1 x_2 x_3 a ∧ uGx (a, ()) ∧ ifp (!mayC a) (True ∧ true = true ∧ R1 ((l, (), n, i, ()), ()) (i, ()) ()) (True ∧ ∃ l_1, Wv Ec l l_1 ∧ true = true ∧ N ((l_1, (), n, wrapF .i64 (i.add 1), ()), ()))) (True ∧ true = true ∧ R0 ((l, (), n, i, ()), ()) () ())) := by kernel_rfl
def uKx : uEl → Prop := fun ((l, (), n, i, ()), ()) => ∃ k : Nat, i = k ∧ n = l.length ∧ k ≤ l.length ∧ l.length < 9223372036854775807 ∧ (l.take k).all mayC = true
def uTq : uEl → Nat := fun ((l, (), n, i, ()), ()) => l.length - i.toNat
def uQg : uEl → (Unit) → (Unit) → Prop := fun ((l, (), n, i, ()), ()) _ _ => l.all mayC = true
def uQf : uEl → (Int × Unit) → (Unit) → Prop := fun ((l, (), n, i, ()), ()) (q, _) _ => 0 ≤ q ∧ l.all mayC = false
noncomputable def uV9 : LoopC := loopC 0 uQh (uG0 uQg uQf) uKx
theorem mayIStep : stepsOk PP (KL [(52, uQa)] []) 100 63 19 (loopBody PP 63 2) 0 false uQh (uG0 uQg uQf) uKx uTq ⟨_, _, uQd, uQi, fun x y => (x, y)⟩ := by
 intro x y hz
 obtain ⟨l, _, n, i, _⟩ := x
 obtain _ := y
 refine (mayIForm l n i _ _ _).mpr ?_
 obtain ⟨k, rfl, rfl, hk, hl, ht⟩ := hz
 rw [ifp_lt]
 simp only [natOf_nat]
 split
 ·rename_i h
  have hkl : k < l.length := by simpa using h
  refine ⟨idx_ok hkl, _, uGv hkl, _, uGu hkl, _, uGt hkl, _, uGs hkl, l[k], rfl, trivial, ?_⟩
  cases hm : mayC l[k] with
  | true =>
   rw [ifp_neg (show (!true) = false from rfl)]
   refine ⟨trivial, l, Wk.refl _, (by trivial), ?_⟩
   rw [wsucc (by omega)]
   exact ⟨⟨k + 1, rfl, rfl, hkl, hl, by rw [all_take_succ hkl, ht, hm]; rfl⟩, by show l.length - (k + 1) < l.length - k; omega, fun _ _ h => h, fun _ _ h => h, trivial⟩
  | false =>
   rw [ifp_pos (show (!false) = true from rfl)]
   exact ⟨trivial, (by trivial), by omega, all_of_get hkl hm⟩
 ·rename_i h
  have hkl : ¬ k < l.length := by simpa using h
  exact ⟨trivial, (by trivial), by rw [take_all hkl] at ht; exact ht⟩
theorem mayIOk : LoopOk PP 63 19 (.loop (loopBody PP 63 2)) (uV9) := loop_ok uTq  mixed (KL_ok (cc_cons uTo (cc_nil))) rfl (steps_cons mayIStep (steps_nil))
noncomputable def mayT : Tel ((List Cd) × Unit) := .cons 0 (.lst Ec) (.nil)
theorem mayFn (l : List Cd) (Q : AV → Prop) : (callW PP (runW PP (KL [] [(63, [(2, uV9)])]) 200) 32 (mayT.cells id (l, ())) (stE false) (fun x st => frzW st x Q)) = ( LoopOk PP 63 19 (loopBody PP 63 2).loop uV9 ∧ True ∧ True ∧ ∃ l_1, Wv Ec l l_1 ∧ true = true ∧ uKx ((l_1, (), Int.ofNat l.length, 0, ()), ()) ∧ (∀ (c d : Unit), uQg ((l_1, (), Int.ofNat l.length, 0, ()), ()) c d → Q (AV.bool true)) ∧ (∀ c d, uQf ((l_1, (), Int.ofNat l.length, 0, ()), ()) c d → ifp (leInt 0 c.1) (Q (AV.bool false)) (Q (AV.bool true))) ∧ True) := by kernel_rfl
def uIj : (List Cd) × Unit → Prop := fun (l, ()) => l.length < 9223372036854775807
noncomputable def uTp : (List Cd) × Unit → AV := fun (l, ()) => .bool (l.all mayC)
noncomputable def mayK : CallC := valC mayT uIj uTp
theorem mayVal (l : List Cd) (hp : uIj (l, ())) : Val PP 32 (mayT.cells id (l, ())) (uTp (l, ())) := by
 refine Val.ofF mixed (KL_ok (cc_nil)) (freesC rfl _) (mayFn l) ?_
 refine ⟨mayIOk, trivial, trivial, l, Wk.refl _, (by trivial), ⟨0, rfl, rfl, Nat.zero_le _, hp, rfl⟩, fun _ _ hr => ?_, fun c _ hr => ?_, trivial⟩
 ·exact tells_bool (Eq.symm hr)
 ·obtain ⟨q, _⟩ := c
  obtain ⟨h0, hf⟩ := hr
  rw [ifp_le, if_pos h0]
  exact tells_bool hf.symm
theorem uWa : CcOk PP 32 mayK := val_ok rfl (fun ⟨l, _⟩ h => mayVal l h)
noncomputable def uBk (l : List Cd) : List Cd := Stab.sort ltC l
noncomputable def ordC (l : List Cd) : List Cd := if l.all mayC = true then uBk l else []
noncomputable def uSk : Tel ((List Cd) × Unit) := .cons 0 (.lst Ec) (.nil)
theorem ord1Fn (l : List Cd) (Q : AV → Prop) : (callW PP (runW PP (KLS [(32, mayK), (42, uLm)] [] 42) 200) 24 (uSk.cells id (l, ())) (stE false) (fun x st => frzW st x Q)) = ( ∃ l_1, Wv Ec l l_1 ∧ uIj (l_1, ()) ∧ ifp (l_1.all mayC) (l.length ≠ 0 ∧ (l.flatMap Ec.f).length = l.length.mul 4 ∧ ifp (allScalar (l.flatMap Ec.f) && true) (0 < Nat.add 0 l.length ∧ 0 = 0 ∧ 0 = 0 ∧ roomy (Nat.add 0 l.length) 32 = true ∧ ∃ (l_2 : List Cd), [] ++ l.flatMap Ec.f = l_2.flatMap Ec.f ∧ true = true ∧ uDl (((Nat.add 0 l.length, Nat.add 0 l.length), (), ()), l_2, ()) ∧ (∀ c d, uFt (((Nat.add 0 l.length, Nat.add 0 l.length), (), ()), l_2, ()) c d → (0 : Int) ≤ Int.ofNat (Nat.add 0 l.length) ∧ Int.ofNat (Nat.add 0 l.length) ≤ ↑(Nat.add 0 l.length) ∧ (0 : Int) ≤ Int.ofNat (Nat.add 0 l.length) ∧ Int.ofNat (Nat.add 0 l.length) ≤ ↑(natOf (Int.ofNat (Nat.add 0 l.length))) ∧ Nat.add 0 (((natOf (Int.ofNat (Nat.add 0 l.length))).sub 0).mul 4) ≤ (List.flatMap Ec.f d.1).length ∧ Q (AV.vs (List.take (((natOf (Int.ofNat (Nat.add 0 l.length))).sub 0).mul 4) (List.drop 0 (List.flatMap Ec.f d.1))) ((natOf (Int.ofNat (Nat.add 0 l.length))).sub 0) ((natOf (Int.ofNat (Nat.add 0 l.length))).sub 0) (mxEx (some (I64 (Int.ofNat (Nat.add 0 l.length)))) false) none 4)) ∧ True) False) (Q AV.nilSlice)) := by kernel_rfl
def ord1Pre : (List Cd) × Unit → Prop := fun (l, ()) => 0 < l.length ∧ l.length ≤ 1000000
noncomputable def uKn : (List Cd) × Unit → AV := fun (l, ()) => lst Ec (ordC l)
theorem ord1Val (l : List Cd) (hp : ord1Pre (l, ())) : Val PP 24 (uSk.cells id (l, ())) (uKn (l, ())) := by
 refine Val.ofF mixed (KLS_ok (cc_cons uWa (cc_cons uN4 (cc_nil)))) (freesC rfl _) (ord1Fn l) ?_
 obtain ⟨h0, hl⟩ := hp
 have e0 : Nat.add 0 l.length = l.length := Nat.zero_add _
 have hs : (uBk l).length = l.length := Stab.sort_len l
 refine ⟨l, Wk.refl _, by show l.length < _; omega, ?_⟩
 cases hm : l.all mayC with
 | false =>
  rw [ifp_neg rfl]
  show Tells .nilSlice (lst Ec (ordC l))
  rw [ordC, if_neg (by rw [hm]; simp)]; exact tells_nil _
 | true =>
  rw [ifp_pos rfl]
  refine ⟨by omega, uB9 l, ?_⟩
  rw [ifp_pos (by rw [Enc.fscal Ec]; rfl)]
  simp only [e0]
  refine ⟨h0, (by trivial), (by trivial), roomy_small (by omega) (by decide), l, rfl, (by trivial), ⟨rfl, hl⟩, fun _ d hr => ?_, trivial⟩
  obtain ⟨s, _⟩ := d
  obtain rfl : s = uBk l := hr
  have ho : ordC l = uBk l := by rw [ordC, if_pos hm]
  refine ⟨Int.natCast_nonneg _, Int.le_refl _, Int.natCast_nonneg _, Int.le_refl _, by show 0 + l.length * 4 ≤ ((uBk l).flatMap Ec.f).length; rw [uB9]; omega, tells_lst ⟨?_, by show l.length = _; rw [ho]; exact hs.symm, rfl⟩⟩
  rw [ho]
  show List.take (l.length * 4) (List.drop 0 ((uBk l).flatMap Ec.f)) = _
  rw [List.drop_zero, List.take_of_length_le (by rw [uB9]; omega)]
theorem cln0Val : Val PP 41 [.vs [] 0 0 false none 4] (.vs [] 0 0 false none 4) := clone_empty (P := PP) (ρ := Tryd.uEw) Tryd.clone41 _ _ 4 32 rfl rfl rfl rfl rfl (by decide) Tryd.sizeOf42 (fun _ _ => rfl) 4
noncomputable def cln0T : Tel (Unit × Unit) := .cons 0 (.con (.vs [] 0 0 false none 4) rfl) .nil
noncomputable def uX4 : CallC := valC cln0T (fun _ => True) (fun _ => .vs [] 0 0 false none 4)
theorem cln0Cc : CcOk PP 41 uX4 := val_ok rfl (fun _ _ => cln0Val)
noncomputable def uXp : Tel (Unit × Unit) := .cons 0 (.con (.vs [] 0 0 false none 4) rfl) (.nil)
theorem ord0Fn (Q : AV → Prop) : (callW PP (runW PP (KLS [(32, mayK), (41, uX4)] [] 42) 200) 24 (uXp.cells id ((), ())) (stE false) (fun x st => frzW st x Q)) = ( ∃ (l : List Cd), Wk (AV.vs [] 0 0 false none 4) (lst Ec l) ∧ uIj (l, ()) ∧ ifp (l.all mayC) (AV.vs [] 0 0 false none 4 = AV.vs [] 0 0 false none 4 ∧ True ∧ (0 : Int) ≤ Int.ofNat 0 ∧ Int.ofNat 0 ≤ ↑0 ∧ (0 : Int) ≤ Int.ofNat 0 ∧ Int.ofNat 0 ≤ ↑(natOf (Int.ofNat 0)) ∧ 0 ≤ 0 ∧ 0 = 0 ∧ Q (AV.vs [] 0 0 (mxEx (some (I64 (Int.ofNat 0))) false) none 4)) (Q AV.nilSlice)) := by kernel_rfl
def ord0Pre : Unit × Unit → Prop := fun ((), ()) => True
noncomputable def ord0Res : Unit × Unit → AV := fun ((), ()) => lst Ec []
theorem ord0Val  (hp : ord0Pre ((), ())) : Val PP 24 (uXp.cells id ((), ())) (ord0Res ((), ())) := by
 refine Val.ofF mixed (KLS_ok (cc_cons uWa (cc_cons cln0Cc (cc_nil)))) (freesC rfl _) (ord0Fn ) ?_
 refine ⟨[], Wk.refl _, by show (0 : Nat) < _; decide, ?_⟩
 rw [ifp_pos (show ([] : List Cd).all mayC = true from rfl)]
 exact ⟨rfl, trivial, by decide, by decide, by decide, by decide, Nat.le_refl _, rfl, tells_lst (E := Ec) (l := []) ⟨rfl, rfl, rfl⟩⟩
theorem ordVal (l : List Cd) (h : l.length ≤ 1000000) : Val PP 24 (uSk.cells id (l, ())) (uKn (l, ())) := by
 cases l with
 | nil => exact ord0Val trivial
 | cons a l => exact ord1Val _ ⟨by simp, h⟩
def uTn : (List Cd) × Unit → Prop := fun (l, ()) => l.length ≤ 1000000
noncomputable def ordK : CallC := valC uSk uTn uKn
theorem ordCc : CcOk PP 24 ordK := val_ok rfl (fun ⟨l, _⟩ h => ordVal l h)
end Go.Proofs.YteehkdejkemnmaaDoor
namespace Go.Proofs.YteehkdejkemnmaaDoor
open Go.Det Go.RowKit
set_option maxRecDepth 100000
abbrev Exa := List Near × List Near × Unit
abbrev Ex : Enc Exa := Enc.pair (Enc.list En) (Enc.pair (Enc.list En) Enc.unit)
end Go.Proofs.YteehkdejkemnmaaDoor
namespace Go.Proofs.YteehkdejkemnmaaDoor
open Go.Det Go.RowKit
set_option maxRecDepth 100000
def getV (V : List (List Int)) (s : Int) : Option (List Int) := if s < 0 then none else V[s.toNat]?
noncomputable def uAu (fr : List Int) (V : List (List Int)) (c : Cd) : Near × Int :=
 match getV V c.2.2.2.1 with
 | none => ((0, 0, ()), 6)
 | some v => ((uA0 fr (uAa v), c.1, ()), uA7 fr (uAa v))
theorem uBo {fr : List Int} {V : List (List Int)} {c : Cd} (h : c.2.2.2.1 < 0 ∨ (V.length : Int) ≤ c.2.2.2.1) : ((0, 0, ()), 6) = uAu fr V c := by
 rw [uAu, getV]
 split
 ·rfl
 ·rename_i v hv
  split at hv
  ·cases hv
  ·rw [List.getElem?_eq_none (by omega)] at hv; cases hv
theorem uD8 {fr : List Int} {V : List (List Int)} {c : Cd} {n : Nat} (h : c.2.2.2.1 = n) (hn : n < V.length) : ((uA0 fr (uAa V[n]), c.1, ()), uA7 fr (uAa V[n])) = uAu fr V c := by
 rw [uAu, getV, h, if_neg (by omega), show ((n : Int)).toNat = n from rfl, List.getElem?_eq_getElem hn]
theorem uT5 {b x y : Bool} (h : cond b x y = true) (hb : b = true) : x = true := by subst hb; exact h
theorem uT6 {b x y : Bool} (h : cond b x y = true) (hb : b = false) : y = true := by subst hb; exact h
theorem flat_get : ∀ {V : List (List Int)} {D n : Nat} (h : ∀ v ∈ V, v.length = D) (hn : n < V.length), (V.flatten.drop (n * D)).take D = V[n]
 | v :: V, D, 0, h, _ => by
  have := h v (by simp)
  rw [Nat.zero_mul, List.drop_zero, List.flatten_cons, List.take_append_of_le_length (by omega), List.take_of_length_le (by omega)]; rfl
 | v :: V, D, n + 1, h, hn => by
  have := h v (by simp)
  rw [List.flatten_cons, Nat.succ_mul, List.drop_append, List.drop_of_length_le (by rw [this]; exact Nat.le_add_left _ _), this, List.nil_append, Nat.add_sub_cancel]
  exact flat_get (fun w hw => h w (by simp [hw])) (by simpa using hn)
abbrev uTj := Int × Int × Int × (Nat × Nat) × (Nat × Nat) × Unit × Unit
abbrev uTk := (Unit × Unit) × ((List Int) × Unit) × uTj × (List Int) × (List Int) × Unit
abbrev uMi := Cd × Unit × Unit × Unit
abbrev rdNZ := uMi × uTk
noncomputable def rdNT : Tel uMi := .cons 0 (.agg Ec) (.cons 1 (.ptr 0) (.cons 2 (.ptr 1) (.nil)))
noncomputable abbrev uIa := Bk.row (.cons 0 (.lst Ei32) (.nil))
noncomputable abbrev uH9 := Bk.row (.cons 0 (.ptr 2) (.nil))
noncomputable def uVg : BTel uTk := .cons uH9 (.cons uIa (.cons (.row (.ji 0 (.ji 1 (.ji 2 (.cons 3 (.slq 3 1) (.cons 4 (.slq 4 1) (.cons 5 (.nilS) (.nil)))))))) (.cons (.rows Eu64 82) (.cons (.rows Ei16 26) (.nil)))))
abbrev uGk := Near × Int × Unit
abbrev uSh := (Unit × Unit) × ((List Int) × Unit) × uTj × (List Int) × (List Int) × Unit
abbrev uE1 := (Unit × Unit) × ((List Int) × Unit) × (Int × Int × Int × (Nat × Nat) × (Nat × Nat) × (List Int) × Unit) × (List Int) × (List Int) × Unit × Unit
noncomputable abbrev uPg := Bk.row (.ji 0 (.ji 1 (.ji 2 (.cons 3 (.slq 3 1) (.cons 4 (.slq 4 1) (.cons 5 (.own Ei64 5) (.nil)))))))
noncomputable def uOw (R0 : rdNZ → uGk → uSh → Prop) (R1 : rdNZ → uGk → uE1 → Prop) : List (Res rdNZ) := [⟨Near × Int × Unit, uSh, .cons 0 (.agg En) (.ji 1 (.nil)), .cons uH9 (.cons uIa (.cons (.row (.ji 0 (.ji 1 (.ji 2 (.cons 3 (.slq 3 1) (.cons 4 (.slq 4 1) (.cons 5 (.nilS) (.nil)))))))) (.cons (.rows Eu64 82) (.cons (.rows Ei16 26) (.nil))))), R0⟩, ⟨Near × Int × Unit, uE1, .cons 0 (.agg En) (.ji 1 (.nil)), .cons uH9 (.cons uIa (.cons uPg (.cons (.rows Eu64 82) (.cons (.rows Ei16 26) (.cons (.spare) (.nil)))))), R1⟩]
abbrev zrdN (u : Cd) (f : List Int) (d r c : Int) (t a : Nat × Nat) (T A : List Int) : rdNZ := ((u, (), (), ()), ((), ()), (f, ()), (d, r, c, t, a, (), ()), T, A, ())
noncomputable abbrev uMj := KLX [(37, uNn), (40, uX1)] [] [82, 26] [] []
theorem rdNFn (u : Cd) (f : List Int) (d r c : Int) (t a : Nat × Nat) (T A : List Int) (R0 : rdNZ → uGk → uSh → Prop) (R1 : rdNZ → uGk → uE1 → Prop) : (callW PP (runW PP uMj 200) 38 (rdNT.cells id (u, (), (), ())) (stL true (uVg.obs id (((), ()), (f, ()), (d, r, c, t, a, (), ()), T, A, ()))) (fun v st => resAny 5 (zrdN u f d r c t a T A) v st (uOw R0 R1))) = ( ifp (leInt 0 u.2.2.2.1) ((64 : Int) ≠ 0 ∧ ifp (!leInt (Int.ofNat t.1) (wrapF .i64 (u.2.2.2.1.tdiv 64))) ((64 : Int) ≠ 0 ∧ idxOk (wrapF .i64 (u.2.2.2.1.tdiv 64)) t.1 ∧ ∃ x : Int, nth (Nat.add 0 ((natOf (wrapF .i64 (u.2.2.2.1.tdiv 64))).mul 1)) (T.flatMap Eu64.f) = some (AV.int .u64 x) ∧ (64 : Int) ≠ 0 ∧ (0 : Int) ≤ u.2.2.2.1.tmod 64 ∧ ifp (eqInt (wrapF .u64 (Int.ofNat ((natOf (uns (modOf .u64) (shrV .u64 x (u.2.2.2.1.tmod 64)))).land (natOf (uns (modOf .u64) 1))))) 1) (1 ≤ 1 ∧ (0 : Int) ≤ wrapF .i64 ((wrapF .i64 (u.2.2.2.1.add 1)).mul d) ∧ wrapF .i64 ((wrapF .i64 (u.2.2.2.1.add 1)).mul d) ≤ ↑a.2 ∧ (0 : Int) ≤ wrapF .i64 ((wrapF .i64 (u.2.2.2.1.add 1)).mul d) ∧ wrapF .i64 ((wrapF .i64 (u.2.2.2.1.add 1)).mul d) ≤ ↑(natOf (wrapF .i64 ((wrapF .i64 (u.2.2.2.1.add 1)).mul d))) ∧ (0 : Int) ≤ wrapF .i64 (u.2.2.2.1.mul d) ∧ wrapF .i64 (u.2.2.2.1.mul d) ≤ ↑(natOf (wrapF .i64 ((wrapF .i64 (u.2.2.2.1.add 1)).mul d))) ∧ True ∧ True ∧ True ∧ True ∧ True ∧ (Nat.add 0 ((natOf (wrapF .i64 (u.2.2.2.1.mul d))).mul 1)).add (((natOf (wrapF .i64 ((wrapF .i64 (u.2.2.2.1.add 1)).mul d))).sub (natOf (wrapF .i64 (u.2.2.2.1.mul d)))).mul 1) ≤ (A.flatMap Ei16.f).length ∧ ifp (allScalar (List.take (((natOf (wrapF .i64 ((wrapF .i64 (u.2.2.2.1.add 1)).mul d))).sub (natOf (wrapF .i64 (u.2.2.2.1.mul d)))).mul 1) (List.drop (Nat.add 0 ((natOf (wrapF .i64 (u.2.2.2.1.mul d))).mul 1)) (A.flatMap Ei16.f))) && true) (ifp (roomy (Nat.add 0 ((natOf (wrapF .i64 ((wrapF .i64 (u.2.2.2.1.add 1)).mul d))).sub (natOf (wrapF .i64 (u.2.2.2.1.mul d))))) 2) (∃ (l : List Int), Wk (AV.vs ([] ++ List.take (((natOf (wrapF .i64 ((wrapF .i64 (u.2.2.2.1.add 1)).mul d))).sub (natOf (wrapF .i64 (u.2.2.2.1.mul d)))).mul 1) (List.drop (Nat.add 0 ((natOf (wrapF .i64 (u.2.2.2.1.mul d))).mul 1)) (A.flatMap Ei16.f))) (Nat.add 0 ((natOf (wrapF .i64 ((wrapF .i64 (u.2.2.2.1.add 1)).mul d))).sub (natOf (wrapF .i64 (u.2.2.2.1.mul d))))) (Nat.add 0 ((natOf (wrapF .i64 ((wrapF .i64 (u.2.2.2.1.add 1)).mul d))).sub (natOf (wrapF .i64 (u.2.2.2.1.mul d))))) false (some 36) 1) (lst Ei16 l) ∧ uCh (l, ()) ∧ ∃ l_1, Wv Ei32 f l_1 ∧ ∃ l_2, Wv Ei32 (uAa l) l_2 ∧ uHp (l_1, l_2, ()) ∧ (AV.vs (f.flatMap Ei32.f) f.length f.length false none 1 = AV.vs (f.flatMap Ei32.f) f.length f.length false none 1 ∧ True) ∧ ((∃ (a : Near), AV.agg [I64 (uA0 l_1 l_2), I64 u.1] = AV.agg [I64 a.1, I64 a.2.1] ∧ ∃ l, Wv Ei32 f l ∧ False) ∨ ∃ (a_1 : Near), AV.agg [I64 (uA0 l_1 l_2), I64 u.1] = AV.agg [I64 a_1.1, I64 a_1.2.1] ∧ ∃ l, Wv Ei32 f l ∧ ∃ (l_3 : List Int), (WkL [I64 u.2.2.2.1] (l_3.flatMap Ei64.f) ∧ 1 = l_3.length ∧ 1 = 1) ∧ ∃ l_4, Sa Eu64 T l_4 ∧ ∃ l_5, Sa Ei16 A l_5 ∧ true = true ∧ R1 (zrdN u f d r c t a T A) (a_1, uA7 l_1 l_2, ()) (((), ()), (l, ()), (d, r, c, t, a, l_3, ()), l_4, l_5, (), ()))) False) False) ((∃ a_1 : Near, Ag2 0 0 a_1 ∧ ∃ l, Wv Ei32 f l ∧ ∃ l_1, Sa Eu64 T l_1 ∧ ∃ l_2, Sa Ei16 A l_2 ∧ true = true ∧ R0 (zrdN u f d r c t a T A) (a_1, 6, ()) (((), ()), (l, ()), (d, r, c, t, a, (), ()), l_1, l_2, ())) ∨ ∃ a : Near, Ag2 0 0 a ∧ ∃ l, Wv Ei32 f l ∧ False)) ((∃ a_1 : Near, Ag2 0 0 a_1 ∧ ∃ l, Wv Ei32 f l ∧ ∃ l_1, Sa Eu64 T l_1 ∧ ∃ l_2, Sa Ei16 A l_2 ∧ true = true ∧ R0 (zrdN u f d r c t a T A) (a_1, 6, ()) (((), ()), (l, ()), (d, r, c, t, a, (), ()), l_1, l_2, ())) ∨ ∃ a : Near, Ag2 0 0 a ∧ ∃ l, Wv Ei32 f l ∧ False)) ((∃ a_1 : Near, Ag2 0 0 a_1 ∧ ∃ l, Wv Ei32 f l ∧ ∃ l_1, Sa Eu64 T l_1 ∧ ∃ l_2, Sa Ei16 A l_2 ∧ true = true ∧ R0 (zrdN u f d r c t a T A) (a_1, 6, ()) (((), ()), (l, ()), (d, r, c, t, a, (), ()), l_1, l_2, ())) ∨ ∃ a : Near, Ag2 0 0 a ∧ ∃ l, Wv Ei32 f l ∧ False)) := by kernel_rfl
def uLx : rdNZ → Prop := fun ((u, (), (), ()), ((), ()), (f, ()), (d, r, c, t, a, (), ()), T, A, ()) => u.2.2.2.1 < 9223372036854775808 ∧ ∃ V, SlOk d r c t a T A V
def uSb : rdNZ → uGk → uSh → Prop := fun ((u, (), (), ()), ((), ()), (f, ()), (d, r, c, t, a, (), ()), T, A, ()) (w, e, _) (_, (f2, _), (d2, r2, c2, t2, a2, _), T2, A2, _) => d2 = d ∧ r2 = r ∧ c2 = c ∧ t2 = t ∧ a2 = a ∧ f2 = f ∧ T2 = T ∧ A2 = A∧ e = 6∧ ∀ V, SlOk d r c t a T A V → (w, e) = uAu f V u
def uSa : rdNZ → uGk → uE1 → Prop := fun ((u, (), (), ()), ((), ()), (f, ()), (d, r, c, t, a, (), ()), T, A, ()) (w, e, _) (_, (f2, _), (d2, r2, c2, t2, a2, x2, _), T2, A2, _) => d2 = d ∧ r2 = r ∧ c2 = c ∧ t2 = t ∧ a2 = a ∧ f2 = f ∧ T2 = T ∧ A2 = A∧ x2.length ≤ 1∧ ∀ V, SlOk d r c t a T A V → (w, e) = uAu f V u
noncomputable def rdNK : CallC := callC 5 rdNT uVg uLx (uOw uSb uSa)
theorem rdNStep (z : rdNZ) (hp : uLx z) : callW PP (runW PP uMj 200) 38 (rdNT.cells id z.1) (stL true (uVg.obs id z.2)) (fun v st => resAny 5 z v st (uOw uSb uSa)) := by
 obtain ⟨⟨u, _, _, _⟩, ⟨⟨_, _⟩, ⟨f, _⟩, ⟨d, r, c, t, a, _, _⟩, T, A, _⟩⟩ := z
 refine (rdNFn u f d r c t a T A _ _).mpr ?_
 obtain ⟨hs, V, hV⟩ := hp
 obtain ⟨ui, ua, ub, us, _⟩ := u
 have hs' : us < 9223372036854775808 := hs
 have hVs := hV
 obtain ⟨⟨d1, d2⟩, rfl, hl, hc, rfl, rfl, rfl, hA, hv⟩ := hVs
 dsimp only
 rw [ifp_le]
 split
 ·rename_i h0
  obtain ⟨n, rfl⟩ := Int.eq_ofNat_of_zero_le h0
  refine ⟨by decide, ?_⟩
  have e5 : wrapF .i64 (Int.tdiv (n : Int) 64) = ((n / 64 : Nat) : Int) := by
   rw [show Int.tdiv (n : Int) 64 = ((n / 64 : Nat) : Int) from rfl, w64 (by omega) (by omega)]
  rw [e5, ifp_lt]
  split
  ·rename_i h1
   have hn64 : n < 64 := by simp only [Int.ofNat_eq_natCast] at h1; omega
   have e6 : Int.tmod (n : Int) 64 = (n : Int) := by
    rw [show Int.tmod (n : Int) 64 = ((n % 64 : Nat) : Int) from rfl, Nat.mod_eq_of_lt hn64]
   have e7 : n / 64 = 0 := by omega
   have hH := uDy uXr (show V.length < 64 by omega) hn64
   rw [e6, e7]
   refine ⟨by decide, ⟨by decide, by decide⟩, ones V.length, rfl, by decide, by omega, ?_⟩
   rw [ifp_eq]
   split
   ·rename_i h2
    have hnV : n < V.length := of_ble (uT5 hH (eqInt_iff.2 h2))
    obtain ⟨D, rfl⟩ := Int.eq_ofNat_of_zero_le (show 0 ≤ d by omega)
    have hvD : ∀ v ∈ V, v.length = D := fun v hm => by have := hv v hm; omega
    have hAl : A.length = V.length * D := by rw [hA]; exact uHj hvD
    have hnD : (n + 1) * D ≤ V.length * D := Nat.mul_le_mul_right _ hnV
    have hVD : V.length * D ≤ 60 * 1024 := Nat.mul_le_mul (by omega) (by omega)
    have hs1 : (n + 1) * D = n * D + D := Nat.succ_mul _ _
    have e1 : wrapF .i64 (Int.add (n : Int) 1) = ((n + 1 : Nat) : Int) := wsucc (by omega)
    have e2 : wrapF .i64 (Int.mul ((n + 1 : Nat) : Int) (D : Int)) = (((n + 1) * D : Nat) : Int) := uHu (by omega)
    have e3 : wrapF .i64 (Int.mul (n : Int) (D : Int)) = ((n * D : Nat) : Int) := uHu (by omega)
    have hA2 : (A.flatMap Ei16.f).length = A.length := by rw [Enc.flen Ei16 A]; exact Nat.mul_one _
    have hsub : Nat.sub ((n + 1) * D) (n * D) = D := by show (n + 1) * D - n * D = D; omega
    have hcut : List.take (Nat.mul D 1) (List.drop (Nat.add 0 (Nat.mul (n * D) 1)) (A.flatMap Ei16.f)) = ((A.drop (n * D)).take D).flatMap Ei16.f := by
     rw [show Nat.mul D 1 = D from Nat.mul_one _, show Nat.add 0 (Nat.mul (n * D) 1) = n * D by show 0 + n * D * 1 = _; omega, fdrop1 (E := Ei16) rfl, ftake1 (E := Ei16) rfl]
    have hvl : ((A.drop (n * D)).take D).length = D := by rw [List.length_take, List.length_drop]; omega
    simp only [e1, e2, e3, natOf_nat, hsub, hcut]
    refine ⟨Nat.le_refl _, ?_⟩
    refine ⟨by omega, by show _ ≤ ((A.length : Nat) : Int); omega, by omega, by omega, by omega, by omega, trivial, trivial, trivial, trivial, trivial, by rw [hA2]; show 0 + n * D * 1 + D * 1 ≤ _; omega, ?_⟩
    rw [ifp_pos (by rw [Enc.fscal Ei16]; rfl), ifp_pos (roomy_small (by show 0 + D ≤ _; omega) (by decide))]
    refine ⟨(A.drop (n * D)).take D, wk_vs ⟨rfl, by rw [hvl]; exact Nat.zero_add _, rfl⟩, by show _ ≤ 1000000; rw [hvl]; omega, f, Wk.refl _, uAa ((A.drop (n * D)).take D), Wk.refl _, trivial, ⟨(by first | rfl | trivial), trivial⟩, ?_⟩
    refine Or.inr ⟨(uA0 f (uAa ((A.drop (n * D)).take D)), ui, ()), rfl, f, Wk.refl _, [(n : Int)], ⟨wkl_one (E := Ei64) ⟨Wk.refl _, trivial⟩, (by first | rfl | trivial), (by first | rfl | trivial)⟩, [ones V.length], rfl, A, rfl, (by first | rfl | trivial), rfl, rfl, rfl, rfl, rfl, rfl, rfl, rfl, by simp, fun V' hV' => ?_⟩
    have hc' : V'.length = V.length := by have := hV'.c1; have := hV.c1; omega
    have hv' : ∀ v ∈ V', v.length = D := fun v hm => by have := hV'.v1 v hm; omega
    have hg := flat_get hv' (show n < V'.length by omega)
    rw [hV'.A1, hg]
    exact uD8 (c := (ui, ua, ub, (n : Int), ())) rfl (by omega)
   ·rename_i h2
    have hnV : V.length ≤ n := of_ble (uT6 hH (Bool.not_eq_true _ ▸ fun e => h2 (eqInt_iff.1 e)))
    exact Or.inl ⟨ (0, 0, ()), rfl, f, Wk.refl _, [ones V.length], rfl, A, rfl, (by first | rfl | trivial), rfl, rfl, rfl, rfl, rfl, rfl, rfl, rfl, rfl, fun V' hV' => uBo (by have := hV'.c1; have := hV.c1; show _ ∨ _; simp only; omega)⟩
  ·rename_i h1
   have hn64 : 64 ≤ n := by simp only [Int.ofNat_eq_natCast] at h1; omega
   exact Or.inl ⟨ (0, 0, ()), rfl, f, Wk.refl _, [ones V.length], rfl, A, rfl, (by first | rfl | trivial), rfl, rfl, rfl, rfl, rfl, rfl, rfl, rfl, rfl, fun V' hV' => uBo (by have := hV'.c1; have := hV.c1; show _ ∨ _; simp only; omega)⟩
 ·rename_i h0
  exact Or.inl ⟨ (0, 0, ()), rfl, f, Wk.refl _, [ones V.length], rfl, A, rfl, (by first | rfl | trivial), rfl, rfl, rfl, rfl, rfl, rfl, rfl, rfl, rfl, fun V' hV' => uBo (by have := hV'.c1; have := hV.c1; show _ ∨ _; simp only; omega)⟩
theorem rdNCc : CcOk PP 38 rdNK := call_ok mixed (KLX_ok (cc_cons uHv (cc_cons uT4 (cc_nil)))) rfl rdNStep
abbrev rdOZ := uMi × uE1
noncomputable def rdOT : Tel uMi := .cons 0 (.agg Ec) (.cons 1 (.ptr 0) (.cons 2 (.ptr 1) (.nil)))
noncomputable def uVf : BTel uE1 := .cons uH9 (.cons uIa (.cons uPg (.cons (.rows Eu64 82) (.cons (.rows Ei16 26) (.cons (.spare) (.nil))))))
noncomputable def uOv (R0 : rdOZ → uGk → uE1 → Prop) : List (Res rdOZ) := [⟨Near × Int × Unit, uE1, .cons 0 (.agg En) (.ji 1 (.nil)), .cons uH9 (.cons uIa (.cons uPg (.cons (.rows Eu64 82) (.cons (.rows Ei16 26) (.cons (.spare) (.nil)))))), R0⟩]
abbrev zrdO (u : Cd) (f : List Int) (d r c : Int) (t a : Nat × Nat) (x T A : List Int) : rdOZ := ((u, (), (), ()), ((), ()), (f, ()), (d, r, c, t, a, x, ()), T, A, (), ())
theorem rdOFn (u : Cd) (f : List Int) (d r c : Int) (t a : Nat × Nat) (x T A : List Int) (R0 : rdOZ → uGk → uE1 → Prop) : (callW PP (runW PP uMj 200) 38 (rdOT.cells id (u, (), (), ())) (stL true (uVf.obs id (((), ()), (f, ()), (d, r, c, t, a, x, ()), T, A, (), ()))) (fun v st => resAny 5 (zrdO u f d r c t a x T A) v st (uOv R0))) = ( ifp (leInt 0 u.2.2.2.1) ((64 : Int) ≠ 0 ∧ ifp (!leInt (Int.ofNat t.1) (wrapF .i64 (u.2.2.2.1.tdiv 64))) ((64 : Int) ≠ 0 ∧ idxOk (wrapF .i64 (u.2.2.2.1.tdiv 64)) t.1 ∧ ∃ x_1 : Int, nth (Nat.add 0 ((natOf (wrapF .i64 (u.2.2.2.1.tdiv 64))).mul 1)) (T.flatMap Eu64.f) = some (AV.int .u64 x_1) ∧ (64 : Int) ≠ 0 ∧ (0 : Int) ≤ u.2.2.2.1.tmod 64 ∧ ifp (eqInt (wrapF .u64 (Int.ofNat ((natOf (uns (modOf .u64) (shrV .u64 x_1 (u.2.2.2.1.tmod 64)))).land (natOf (uns (modOf .u64) 1))))) 1) (1 ≤ 1 ∧ ifp (roomy (x.length.add 1) 8) ((0 : Int) ≤ wrapF .i64 ((wrapF .i64 (u.2.2.2.1.add 1)).mul d) ∧ wrapF .i64 ((wrapF .i64 (u.2.2.2.1.add 1)).mul d) ≤ ↑a.2 ∧ (0 : Int) ≤ wrapF .i64 ((wrapF .i64 (u.2.2.2.1.add 1)).mul d) ∧ wrapF .i64 ((wrapF .i64 (u.2.2.2.1.add 1)).mul d) ≤ ↑(natOf (wrapF .i64 ((wrapF .i64 (u.2.2.2.1.add 1)).mul d))) ∧ (0 : Int) ≤ wrapF .i64 (u.2.2.2.1.mul d) ∧ wrapF .i64 (u.2.2.2.1.mul d) ≤ ↑(natOf (wrapF .i64 ((wrapF .i64 (u.2.2.2.1.add 1)).mul d))) ∧ True ∧ True ∧ True ∧ True ∧ True ∧ (Nat.add 0 ((natOf (wrapF .i64 (u.2.2.2.1.mul d))).mul 1)).add (((natOf (wrapF .i64 ((wrapF .i64 (u.2.2.2.1.add 1)).mul d))).sub (natOf (wrapF .i64 (u.2.2.2.1.mul d)))).mul 1) ≤ (A.flatMap Ei16.f).length ∧ ifp (allScalar (List.take (((natOf (wrapF .i64 ((wrapF .i64 (u.2.2.2.1.add 1)).mul d))).sub (natOf (wrapF .i64 (u.2.2.2.1.mul d)))).mul 1) (List.drop (Nat.add 0 ((natOf (wrapF .i64 (u.2.2.2.1.mul d))).mul 1)) (A.flatMap Ei16.f))) && true) (ifp (roomy (Nat.add 0 ((natOf (wrapF .i64 ((wrapF .i64 (u.2.2.2.1.add 1)).mul d))).sub (natOf (wrapF .i64 (u.2.2.2.1.mul d))))) 2) (∃ (l : List Int), Wk (AV.vs ([] ++ List.take (((natOf (wrapF .i64 ((wrapF .i64 (u.2.2.2.1.add 1)).mul d))).sub (natOf (wrapF .i64 (u.2.2.2.1.mul d)))).mul 1) (List.drop (Nat.add 0 ((natOf (wrapF .i64 (u.2.2.2.1.mul d))).mul 1)) (A.flatMap Ei16.f))) (Nat.add 0 ((natOf (wrapF .i64 ((wrapF .i64 (u.2.2.2.1.add 1)).mul d))).sub (natOf (wrapF .i64 (u.2.2.2.1.mul d))))) (Nat.add 0 ((natOf (wrapF .i64 ((wrapF .i64 (u.2.2.2.1.add 1)).mul d))).sub (natOf (wrapF .i64 (u.2.2.2.1.mul d))))) false (some 37) 1) (lst Ei16 l) ∧ uCh (l, ()) ∧ ∃ l_1, Wv Ei32 f l_1 ∧ ∃ l_2, Wv Ei32 (uAa l) l_2 ∧ uHp (l_1, l_2, ()) ∧ (AV.vs (f.flatMap Ei32.f) f.length f.length false none 1 = AV.vs (f.flatMap Ei32.f) f.length f.length false none 1 ∧ True) ∧ ∃ (a_1 : Near), AV.agg [I64 (uA0 l_1 l_2), I64 u.1] = AV.agg [I64 a_1.1, I64 a_1.2.1] ∧ ∃ l, Wv Ei32 f l ∧ ∃ (l_3 : List Int), (WkL (x.flatMap Ei64.f ++ [I64 u.2.2.2.1]) (l_3.flatMap Ei64.f) ∧ x.length.add 1 = l_3.length ∧ 1 = 1) ∧ ∃ l_4, Sa Eu64 T l_4 ∧ ∃ l_5, Sa Ei16 A l_5 ∧ true = true ∧ R0 (zrdO u f d r c t a x T A) (a_1, uA7 l_1 l_2, ()) (((), ()), (l, ()), (d, r, c, t, a, l_3, ()), l_4, l_5, (), ())) False) False) False) (∃ a_1 : Near, Ag2 0 0 a_1 ∧ ∃ l, Wv Ei32 f l ∧ ∃ l_1, Ow Ei64 x l_1 1 ∧ ∃ l_2, Sa Eu64 T l_2 ∧ ∃ l_3, Sa Ei16 A l_3 ∧ true = true ∧ R0 (zrdO u f d r c t a x T A) (a_1, 6, ()) (((), ()), (l, ()), (d, r, c, t, a, l_1, ()), l_2, l_3, (), ()))) (∃ a_1 : Near, Ag2 0 0 a_1 ∧ ∃ l, Wv Ei32 f l ∧ ∃ l_1, Ow Ei64 x l_1 1 ∧ ∃ l_2, Sa Eu64 T l_2 ∧ ∃ l_3, Sa Ei16 A l_3 ∧ true = true ∧ R0 (zrdO u f d r c t a x T A) (a_1, 6, ()) (((), ()), (l, ()), (d, r, c, t, a, l_1, ()), l_2, l_3, (), ()))) (∃ a_1 : Near, Ag2 0 0 a_1 ∧ ∃ l, Wv Ei32 f l ∧ ∃ l_1, Ow Ei64 x l_1 1 ∧ ∃ l_2, Sa Eu64 T l_2 ∧ ∃ l_3, Sa Ei16 A l_3 ∧ true = true ∧ R0 (zrdO u f d r c t a x T A) (a_1, 6, ()) (((), ()), (l, ()), (d, r, c, t, a, l_1, ()), l_2, l_3, (), ()))) := by kernel_rfl
def uE7 : rdOZ → Prop := fun ((u, (), (), ()), ((), ()), (f, ()), (d, r, c, t, a, x, ()), T, A, (), ()) => u.2.2.2.1 < 9223372036854775808 ∧ x.length ≤ 999999 ∧ ∃ V, SlOk d r c t a T A V
def uM4 : rdOZ → uGk → uE1 → Prop := fun ((u, (), (), ()), ((), ()), (f, ()), (d, r, c, t, a, x, ()), T, A, (), ()) (w, e, _) (_, (f2, _), (d2, r2, c2, t2, a2, x2, _), T2, A2, _) => d2 = d ∧ r2 = r ∧ c2 = c ∧ t2 = t ∧ a2 = a ∧ f2 = f ∧ T2 = T ∧ A2 = A∧ x2.length ≤ x.length + 1∧ ∀ V, SlOk d r c t a T A V → (w, e) = uAu f V u
noncomputable def rdOK : CallC := callC 5 rdOT uVf uE7 (uOv uM4)
theorem rdOStep (z : rdOZ) (hp : uE7 z) : callW PP (runW PP uMj 200) 38 (rdOT.cells id z.1) (stL true (uVf.obs id z.2)) (fun v st => resAny 5 z v st (uOv uM4)) := by
 obtain ⟨⟨u, _, _, _⟩, ⟨⟨_, _⟩, ⟨f, _⟩, ⟨d, r, c, t, a, x, _⟩, T, A, _, _⟩⟩ := z
 refine (rdOFn u f d r c t a x T A _).mpr ?_
 obtain ⟨hs, hx, V, hV⟩ := hp
 obtain ⟨ui, ua, ub, us, _⟩ := u
 have hs' : us < 9223372036854775808 := hs
 have hVs := hV
 obtain ⟨⟨d1, d2⟩, rfl, hl, hc, rfl, rfl, rfl, hA, hv⟩ := hVs
 dsimp only
 rw [ifp_le]
 split
 ·rename_i h0
  obtain ⟨n, rfl⟩ := Int.eq_ofNat_of_zero_le h0
  refine ⟨by decide, ?_⟩
  have e5 : wrapF .i64 (Int.tdiv (n : Int) 64) = ((n / 64 : Nat) : Int) := by
   rw [show Int.tdiv (n : Int) 64 = ((n / 64 : Nat) : Int) from rfl, w64 (by omega) (by omega)]
  rw [e5, ifp_lt]
  split
  ·rename_i h1
   have hn64 : n < 64 := by simp only [Int.ofNat_eq_natCast] at h1; omega
   have e6 : Int.tmod (n : Int) 64 = (n : Int) := by
    rw [show Int.tmod (n : Int) 64 = ((n % 64 : Nat) : Int) from rfl, Nat.mod_eq_of_lt hn64]
   have e7 : n / 64 = 0 := by omega
   have hH := uDy uXr (show V.length < 64 by omega) hn64
   rw [e6, e7]
   refine ⟨by decide, ⟨by decide, by decide⟩, ones V.length, rfl, by decide, by omega, ?_⟩
   rw [ifp_eq]
   split
   ·rename_i h2
    have hnV : n < V.length := of_ble (uT5 hH (eqInt_iff.2 h2))
    obtain ⟨D, rfl⟩ := Int.eq_ofNat_of_zero_le (show 0 ≤ d by omega)
    have hvD : ∀ v ∈ V, v.length = D := fun v hm => by have := hv v hm; omega
    have hAl : A.length = V.length * D := by rw [hA]; exact uHj hvD
    have hnD : (n + 1) * D ≤ V.length * D := Nat.mul_le_mul_right _ hnV
    have hVD : V.length * D ≤ 60 * 1024 := Nat.mul_le_mul (by omega) (by omega)
    have hs1 : (n + 1) * D = n * D + D := Nat.succ_mul _ _
    have e1 : wrapF .i64 (Int.add (n : Int) 1) = ((n + 1 : Nat) : Int) := wsucc (by omega)
    have e2 : wrapF .i64 (Int.mul ((n + 1 : Nat) : Int) (D : Int)) = (((n + 1) * D : Nat) : Int) := uHu (by omega)
    have e3 : wrapF .i64 (Int.mul (n : Int) (D : Int)) = ((n * D : Nat) : Int) := uHu (by omega)
    have hA2 : (A.flatMap Ei16.f).length = A.length := by rw [Enc.flen Ei16 A]; exact Nat.mul_one _
    have hsub : Nat.sub ((n + 1) * D) (n * D) = D := by show (n + 1) * D - n * D = D; omega
    have hcut : List.take (Nat.mul D 1) (List.drop (Nat.add 0 (Nat.mul (n * D) 1)) (A.flatMap Ei16.f)) = ((A.drop (n * D)).take D).flatMap Ei16.f := by
     rw [show Nat.mul D 1 = D from Nat.mul_one _, show Nat.add 0 (Nat.mul (n * D) 1) = n * D by show 0 + n * D * 1 = _; omega, fdrop1 (E := Ei16) rfl, ftake1 (E := Ei16) rfl]
    have hvl : ((A.drop (n * D)).take D).length = D := by rw [List.length_take, List.length_drop]; omega
    simp only [e1, e2, e3, natOf_nat, hsub, hcut]
    refine ⟨Nat.le_refl _, ?_⟩
    rw [ifp_pos (roomy_small (by show x.length + 1 ≤ _; omega) (by decide))]
    refine ⟨by omega, by show _ ≤ ((A.length : Nat) : Int); omega, by omega, by omega, by omega, by omega, trivial, trivial, trivial, trivial, trivial, by rw [hA2]; show 0 + n * D * 1 + D * 1 ≤ _; omega, ?_⟩
    rw [ifp_pos (by rw [Enc.fscal Ei16]; rfl), ifp_pos (roomy_small (by show 0 + D ≤ _; omega) (by decide))]
    refine ⟨(A.drop (n * D)).take D, wk_vs ⟨rfl, by rw [hvl]; exact Nat.zero_add _, rfl⟩, by show _ ≤ 1000000; rw [hvl]; omega, f, Wk.refl _, uAa ((A.drop (n * D)).take D), Wk.refl _, trivial, ⟨(by first | rfl | trivial), trivial⟩, ?_⟩
    refine ⟨(uA0 f (uAa ((A.drop (n * D)).take D)), ui, ()), rfl, f, Wk.refl _, x ++ [(n : Int)], ⟨wkl_snoc (E := Ei64) ⟨Wk.refl _, trivial⟩, len_snoc, (by first | rfl | trivial)⟩, [ones V.length], rfl, A, rfl, (by first | rfl | trivial), rfl, rfl, rfl, rfl, rfl, rfl, rfl, rfl, by simp, fun V' hV' => ?_⟩
    have hc' : V'.length = V.length := by have := hV'.c1; have := hV.c1; omega
    have hv' : ∀ v ∈ V', v.length = D := fun v hm => by have := hV'.v1 v hm; omega
    have hg := flat_get hv' (show n < V'.length by omega)
    rw [hV'.A1, hg]
    exact uD8 (c := (ui, ua, ub, (n : Int), ())) rfl (by omega)
   ·rename_i h2
    have hnV : V.length ≤ n := of_ble (uT6 hH (Bool.not_eq_true _ ▸ fun e => h2 (eqInt_iff.1 e)))
    exact ⟨ (0, 0, ()), rfl, f, Wk.refl _, x, ⟨WkL.refl _, (by first | rfl | trivial), (by first | rfl | trivial)⟩, [ones V.length], rfl, A, rfl, (by first | rfl | trivial), rfl, rfl, rfl, rfl, rfl, rfl, rfl, rfl, Nat.le_succ _, fun V' hV' => uBo (by have := hV'.c1; have := hV.c1; show _ ∨ _; simp only; omega)⟩
  ·rename_i h1
   have hn64 : 64 ≤ n := by simp only [Int.ofNat_eq_natCast] at h1; omega
   exact ⟨ (0, 0, ()), rfl, f, Wk.refl _, x, ⟨WkL.refl _, (by first | rfl | trivial), (by first | rfl | trivial)⟩, [ones V.length], rfl, A, rfl, (by first | rfl | trivial), rfl, rfl, rfl, rfl, rfl, rfl, rfl, rfl, Nat.le_succ _, fun V' hV' => uBo (by have := hV'.c1; have := hV.c1; show _ ∨ _; simp only; omega)⟩
 ·rename_i h0
  exact ⟨ (0, 0, ()), rfl, f, Wk.refl _, x, ⟨WkL.refl _, (by first | rfl | trivial), (by first | rfl | trivial)⟩, [ones V.length], rfl, A, rfl, (by first | rfl | trivial), rfl, rfl, rfl, rfl, rfl, rfl, rfl, rfl, Nat.le_succ _, fun V' hV' => uBo (by have := hV'.c1; have := hV.c1; show _ ∨ _; simp only; omega)⟩
theorem rdOCc : CcOk PP 38 rdOK := call_ok mixed (KLX_ok (cc_cons uHv (cc_cons uT4 (cc_nil)))) rfl rdOStep
noncomputable def rdK : CallC := orC rdNK rdOK
theorem rdCc : CcOk PP 38 rdK := orC_ok rdNCc rdOCc
end Go.Proofs.YteehkdejkemnmaaDoor
namespace Go.Proofs.YteehkdejkemnmaaDoor
open Go.Det Go.RowKit
set_option maxRecDepth 100000
noncomputable def exF (fr : List Int) (V : List (List Int)) (k : Int) : List Cd → List Near → List Near → (List Near × List Near) × Int
 | [], L, R => ((L, R), 0)
 | c :: cs, L, R =>
  if (uAf k L).2 = true ∧ (uAf k L).1.1 < lowV c then ((L, R), 0)
  else if (uAu fr V c).2 ≠ 0 then (([], []), (uAu fr V c).2)
  else exF fr V k cs (uAn k L (uAu fr V c).1) (R ++ [(c.1, (if (uAf k L).2 = true then (uAf k L).1.1 else -1), ())])
abbrev uFc := Unit × Unit × Unit × Unit × Unit × Unit × Unit × (List Cd) × Int × Int × Unit
abbrev uH7 := Int × Int × Int × (Nat × Nat) × (Nat × Nat) × (List Int) × Unit
abbrev uBx := Unit × Unit × Unit
abbrev uTi := uH7 × (List Int) × (List Int) × Unit × (Unit × Unit) × ((List Int) × Unit) × (Int × (Nat × Nat) × Unit) × (List Near) × (Unit × (List Near) × Unit) × Unit × uBx × Unit
abbrev exLZ := uFc × uTi
noncomputable def uWx : Tel uFc := .cons 2 (.ptr 0) (.cons 8 (.ptr 10) (.cons 11 (.ptr 6) (.cons 13 (.fnb 21 [6]) (.cons 14 (.fnb 22 [6]) (.cons 15 (.fnp 38 [4, 5]) (.cons 16 (.ptr 8) (.cons 50 (.lst Ec) (.ji 51 (.ji 52 (.nil))))))))))
noncomputable abbrev uH8 := Bk.row (.ji 0 (.ji 1 (.ji 2 (.cons 3 (.slq 1 1) (.cons 4 (.slq 2 1) (.cons 5 (.own Ei64 3) (.nil)))))))
noncomputable abbrev uBy := Bk.row (.cons 0 (.nilS) (.cons 1 (.nilS) (.nil)))
noncomputable abbrev uPe := Bk.row (.cons 0 (.lst Ei32) (.nil))
noncomputable abbrev uPd := Bk.row (.cons 0 (.ptr 0) (.nil))
noncomputable def uWy : BTel uTi := .cons uH8 (.cons (.rows Eu64 82) (.cons (.rows Ei16 26) (.cons (.spare) (.cons uPd (.cons uPe (.cons (.row (.ji 0 (.cons 1 (.slq 7 2) (.nil)))) (.cons (.rows En 44) (.cons (.row (.cons 0 (.nilS) (.cons 1 (.own En 9) (.nil)))) (.cons (.spare) (.cons uBy (.nil)))))))))))
noncomputable def uRj : Tel uFc := .cons 2 (.ptr 0) (.cons 8 (.ptr 8) (.cons 11 (.ptr 6) (.cons 13 (.fnb 21 [6]) (.cons 14 (.fnb 22 [6]) (.cons 15 (.fnp 38 [4, 5]) (.cons 16 (.ptr 7) (.cons 50 (.lst Ec) (.ji 51 (.ji 52 (.nil))))))))))
abbrev uTg := uH7 × (List Int) × (List Int) × Unit × (Unit × Unit) × ((List Int) × Unit) × (Int × Unit × Unit) × uBx × uBx × Unit
noncomputable abbrev uMh := Bk.row (.ji 0 (.cons 1 (.nilS) (.nil)))
noncomputable def uRl : BTel uTg := .cons uH8 (.cons (.rows Eu64 82) (.cons (.rows Ei16 26) (.cons (.spare) (.cons uPd (.cons uPe (.cons uMh (.cons uBy (.cons uBy (.nil)))))))))
noncomputable def uWw : uFc → uTg → exLZ := fun ((), (), (), (), (), (), (), o, n, i, ()) ((d, r, c, t, a, x, ()), T, A, (), ((), ()), (f, ()), (k, (), ()), ((), (), ()), ((), (), ()), ()) => (((), (), (), (), (), (), (), o, n, i, ()), (d, r, c, t, a, x, ()), T, A, (), ((), ()), (f, ()), (k, (0, 0), ()), [], ((), [], ()), (), ((), (), ()), ())
noncomputable def uRi : Tel uFc := .cons 2 (.ptr 0) (.cons 8 (.ptr 7) (.cons 11 (.ptr 5) (.cons 13 (.fnb 21 [5]) (.cons 14 (.fnb 22 [5]) (.cons 15 (.fnp 38 [3, 4]) (.cons 16 (.ptr 6) (.cons 50 (.lst Ec) (.ji 51 (.ji 52 (.nil))))))))))
abbrev uPc := Int × Int × Int × (Nat × Nat) × (Nat × Nat) × Unit × Unit
abbrev uTh := uPc × (List Int) × (List Int) × (Unit × Unit) × ((List Int) × Unit) × (Int × Unit × Unit) × uBx × uBx × Unit
noncomputable abbrev uPf := Bk.row (.ji 0 (.ji 1 (.ji 2 (.cons 3 (.slq 1 1) (.cons 4 (.slq 2 1) (.cons 5 (.nilS) (.nil)))))))
noncomputable def uRk : BTel uTh := .cons uPf (.cons (.rows Eu64 82) (.cons (.rows Ei16 26) (.cons uPd (.cons uPe (.cons uMh (.cons uBy (.cons uBy (.nil))))))))
noncomputable def uWv : uFc → uTh → exLZ := fun ((), (), (), (), (), (), (), o, n, i, ()) ((d, r, c, t, a, (), ()), T, A, ((), ()), (f, ()), (k, (), ()), ((), (), ()), ((), (), ()), ()) => (((), (), (), (), (), (), (), o, n, i, ()), (d, r, c, t, a, [], ()), T, A, (), ((), ()), (f, ()), (k, (0, 0), ()), [], ((), [], ()), (), ((), (), ()), ())
noncomputable def uLb : List (LForm exLZ) := [⟨_, _, uWx, uWy, fun x y => (x, y)⟩, ⟨_, _, uRj, uRl, uWw⟩, ⟨_, _, uRi, uRk, uWv⟩]
abbrev uBz := Unit × Unit × Unit × Unit
abbrev uNa := uH7 × (List Int) × (List Int) × Unit × (Int × (Nat × Nat) × Unit) × (List Near) × (Unit × (List Near) × Unit) × Unit × uBx × Unit
abbrev uM9 := uH7 × (List Int) × (List Int) × Unit × (Int × Unit × Unit) × uBx × uBx × Unit
abbrev uM8 := uPc × (List Int) × (List Int) × (Int × Unit × Unit) × uBx × uBx × Unit
abbrev uDi := Unit × Int × Unit
abbrev uM7 := uH7 × (List Int) × (List Int) × Unit × uBx × Unit
abbrev uM6 := uPc × (List Int) × (List Int) × uBx × Unit
noncomputable def uCk (R0 : exLZ → uBz → uNa → Prop) (R1 : exLZ → uBz → uM9 → Prop) (R2 : exLZ → uBz → uM8 → Prop) (R3 : exLZ → uDi → uM7 → Prop) (R4 : exLZ → uDi → uM6 → Prop) : List (Alt exLZ) := [⟨.exit 0, uBz, uNa, .cons 8 (.ptr 8) (.cons 11 (.ptr 4) (.cons 16 (.ptr 6) (.nil))), .cons uH8 (.cons (.rows Eu64 82) (.cons (.rows Ei16 26) (.cons (.spare) (.cons (.row (.ji 0 (.cons 1 (.slq 5 2) (.nil)))) (.cons (.rows En 44) (.cons (.row (.cons 0 (.nilS) (.cons 1 (.own En 7) (.nil)))) (.cons (.spare) (.cons uBy (.nil))))))))), R0⟩, ⟨.exit 0, uBz, uM9, .cons 8 (.ptr 6) (.cons 11 (.ptr 4) (.cons 16 (.ptr 5) (.nil))), .cons uH8 (.cons (.rows Eu64 82) (.cons (.rows Ei16 26) (.cons (.spare) (.cons uMh (.cons uBy (.cons uBy (.nil))))))), R1⟩, ⟨.exit 0, uBz, uM8, .cons 8 (.ptr 5) (.cons 11 (.ptr 3) (.cons 16 (.ptr 4) (.nil))), .cons uPf (.cons (.rows Eu64 82) (.cons (.rows Ei16 26) (.cons uMh (.cons uBy (.cons uBy (.nil)))))), R2⟩, ⟨.ret, uDi, uM7, .cons 8 (.ptr 4) (.ji 9 (.nil)), .cons uH8 (.cons (.rows Eu64 82) (.cons (.rows Ei16 26) (.cons (.spare) (.cons uBy (.nil))))), R3⟩, ⟨.ret, uDi, uM6, .cons 8 (.ptr 3) (.ji 9 (.nil)), .cons uPf (.cons (.rows Eu64 82) (.cons (.rows Ei16 26) (.cons uBy (.nil)))), R4⟩]
abbrev uNj (o : List Cd) (n i d r c : Int) (t a : Nat × Nat) (x T A f : List Int) (k : Int) (h : Nat × Nat) (m R : List Near) : exLZ := (((), (), (), (), (), (), (), o, n, i, ()), (d, r, c, t, a, x, ()), T, A, (), ((), ()), (f, ()), (k, h, ()), m, ((), R, ()), (), ((), (), ()), ())
noncomputable abbrev uFd := KLX [(21, uSy), (22, addK), (25, lowK), (38, rdK)] [] [44, 82, 26] [] []
theorem exLForm (o : List Cd) (n i d r c : Int) (t a : Nat × Nat) (x T A f : List Int) (k : Int) (h : Nat × Nat) (m R : List Near) (N : exLZ → Prop) (R0 : exLZ → uBz → uNa → Prop) (R1 : exLZ → uBz → uM9 → Prop) (R2 : exLZ → uBz → uM8 → Prop) (R3 : exLZ → uDi → uM7 → Prop) (R4 : exLZ → uDi → uM6 → Prop) : ((runW PP uFd 100).code none 9 95 (loopBody PP 9 8) (mkT (uWx.av id ((), (), (), (), (), (), (), o, n, i, ()))) [] (stL true (uWy.obs id ((d, r, c, t, a, x, ()), T, A, (), ((), ()), (f, ()), (k, h, ()), m, ((), R, ()), (), ((), (), ()), ()))) (postL 3 uLb (uCk R0 R1 R2 R3 R4) (uNj o n i d r c t a x T A f k h m R) N)) = ( ifp (!leInt n i) (idxOk i o.length ∧ ∃ x_1, Nt Ec (natOf i) 4 0 o x_1 ∧ ∃ x_2, Nt Ec (natOf i) 4 1 o x_2 ∧ ∃ x_3, Nt Ec (natOf i) 4 2 o x_3 ∧ ∃ x_4, Nt Ec (natOf i) 4 3 o x_4 ∧ ((∃ l, Sa En m l ∧ true = true ∧ uD2 (((), ()), (k, h, ()), l, ()) ∧ (∀ c_1 d_1, uFm (((), ()), (k, h, ()), l, ()) c_1 d_1 → ifp c_1.2.1 (2 ≤ 2 ∧ ∃ x_5 : Int, some (I64 c_1.1.1) = some (I64 x_5) ∧ ∃ a_2 : Cd, Ag4 x_1 x_2 x_3 x_4 a_2 ∧ uEo (a_2, ()) ∧ ifp (!leInt (lowV a_2) x_5) ((True ∧ ∃ l, Ow Ei64 x l 1 ∧ ∃ l_1, Sa Eu64 T l_1 ∧ ∃ l_2, Sa Ei16 A l_2 ∧ ∃ l_3, Sa En d_1.2.1 l_3 ∧ ∃ l_4, Ow En R l_4 2 ∧ true = true ∧ R0 (uNj o n i d r c t a x T A f k h m R) ((), (), (), ()) ((d, r, c, t, a, l, ()), l_1, l_2, (), (d_1.1.1, d_1.1.2.1, ()), l_3, ((), l_4, ()), (), ((), (), ()), ())) ∨ (True ∧ ∃ l, Ow Ei64 x l 1 ∧ ∃ l, Sa Eu64 T l ∧ ∃ l, Sa Ei16 A l ∧ False) ∨ True ∧ False) ((∃ a : Cd, Ag4 x_1 x_2 x_3 x_4 a ∧ ∃ l, Wv Ei32 f l ∧ False) ∨ ∃ a_3 : Cd, Ag4 x_1 x_2 x_3 x_4 a_3 ∧ ∃ l, Wv Ei32 f l ∧ ∃ l_1, Ow Ei64 x l_1 1 ∧ ∃ l_2, Sa Eu64 T l_2 ∧ ∃ l_3, Sa Ei16 A l_3 ∧ true = true ∧ uE7 ((a_3, (), (), ()), ((), ()), (l, ()), (d, r, c, t, a, l_1, ()), l_2, l_3, (), ()) ∧ (∀ c_2 d_2, uM4 ((a_3, (), (), ()), ((), ()), (l, ()), (d, r, c, t, a, l_1, ()), l_2, l_3, (), ()) c_2 d_2 → 2 ≤ 2 ∧ ifp (!eqInt c_2.2.1 0) ((True ∧ ∃ l, Ow Ei64 d_2.2.2.1.2.2.2.2.2.1 l 1 ∧ ∃ l_4, Sa Eu64 d_2.2.2.2.1 l_4 ∧ ∃ l_5, Sa Ei16 d_2.2.2.2.2.1 l_5 ∧ true = true ∧ R3 (uNj o n i d r c t a x T A f k h m R) ((), c_2.2.1, ()) ((d_2.2.2.1.1, d_2.2.2.1.2.1, d_2.2.2.1.2.2.1, d_2.2.2.1.2.2.2.1, d_2.2.2.1.2.2.2.2.1, l, ()), l_4, l_5, (), ((), (), ()), ())) ∨ True ∧ False) (2 ≤ 2 ∧ ifp (roomy (R.length.add 1) 16) (∃ x : Int, some (I64 c_2.1.1) = some (I64 x) ∧ ∃ x_6 : Int, some (I64 c_2.1.2.1) = some (I64 x_6) ∧ ((∃ a : Near, Ag2 x x_6 a ∧ ∃ l, Sa En d_1.2.1 l ∧ true = true ∧ uHr (((), a, ()), (d_1.1.1, d_1.1.2.1, ()), l, ()) ∧ (∀ c d, uIy (((), a, ()), (d_1.1.1, d_1.1.2.1, ()), l, ()) c d → True ∧ ((∃ l, Wv Ec o l ∧ ∃ l_4, Ow Ei64 d_2.2.2.1.2.2.2.2.2.1 l_4 1 ∧ ∃ l_5, Sa Eu64 d_2.2.2.2.1 l_5 ∧ ∃ l_6, Sa Ei16 d_2.2.2.2.2.1 l_6 ∧ ∃ l_7, Wv Ei32 d_2.2.1.1 l_7 ∧ ∃ l_8, Sa En d.2.1 l_8 ∧ ∃ (l_9 : List Near), (WkL (R.flatMap En.f ++ [I64 x_1, I64 x_5]) (l_9.flatMap En.f) ∧ R.length.add 1 = l_9.length ∧ 2 = 2) ∧ true = true ∧ N (((), (), (), (), (), (), (), l, n, wrapF .i64 (i.add 1), ()), (d_2.2.2.1.1, d_2.2.2.1.2.1, d_2.2.2.1.2.2.1, d_2.2.2.1.2.2.2.1, d_2.2.2.1.2.2.2.2.1, l_4, ()), l_5, l_6, (), ((), ()), (l_7, ()), (d.1.1, d.1.2.1, ()), l_8, ((), l_9, ()), (), ((), (), ()), ())) ∨ (∃ l, Wv Ec o l ∧ ∃ l, Ow Ei64 d_2.2.2.1.2.2.2.2.2.1 l 1 ∧ ∃ l, Sa Eu64 d_2.2.2.2.1 l ∧ ∃ l, Sa Ei16 d_2.2.2.2.2.1 l ∧ ∃ l, Wv Ei32 d_2.2.1.1 l ∧ False) ∨ ∃ l, Wv Ec o l ∧ False)) ∧ True) ∨ ∃ a : Near, Ag2 x x_6 a ∧ False)) False)) ∧ True)) (2 ≤ 2 ∧ ((∃ a : Cd, Ag4 x_1 x_2 x_3 x_4 a ∧ ∃ l, Wv Ei32 f l ∧ False) ∨ ∃ a_2 : Cd, Ag4 x_1 x_2 x_3 x_4 a_2 ∧ ∃ l, Wv Ei32 f l ∧ ∃ l_1, Ow Ei64 x l_1 1 ∧ ∃ l_2, Sa Eu64 T l_2 ∧ ∃ l_3, Sa Ei16 A l_3 ∧ true = true ∧ uE7 ((a_2, (), (), ()), ((), ()), (l, ()), (d, r, c, t, a, l_1, ()), l_2, l_3, (), ()) ∧ (∀ c_2 d_2, uM4 ((a_2, (), (), ()), ((), ()), (l, ()), (d, r, c, t, a, l_1, ()), l_2, l_3, (), ()) c_2 d_2 → 2 ≤ 2 ∧ ifp (!eqInt c_2.2.1 0) ((True ∧ ∃ l, Ow Ei64 d_2.2.2.1.2.2.2.2.2.1 l 1 ∧ ∃ l_4, Sa Eu64 d_2.2.2.2.1 l_4 ∧ ∃ l_5, Sa Ei16 d_2.2.2.2.2.1 l_5 ∧ true = true ∧ R3 (uNj o n i d r c t a x T A f k h m R) ((), c_2.2.1, ()) ((d_2.2.2.1.1, d_2.2.2.1.2.1, d_2.2.2.1.2.2.1, d_2.2.2.1.2.2.2.1, d_2.2.2.1.2.2.2.2.1, l, ()), l_4, l_5, (), ((), (), ()), ())) ∨ True ∧ False) (2 ≤ 2 ∧ ifp (roomy (R.length.add 1) 16) (∃ x : Int, some (I64 c_2.1.1) = some (I64 x) ∧ ∃ x_5 : Int, some (I64 c_2.1.2.1) = some (I64 x_5) ∧ ((∃ a : Near, Ag2 x x_5 a ∧ ∃ l, Sa En d_1.2.1 l ∧ true = true ∧ uHr (((), a, ()), (d_1.1.1, d_1.1.2.1, ()), l, ()) ∧ (∀ c d, uIy (((), a, ()), (d_1.1.1, d_1.1.2.1, ()), l, ()) c d → True ∧ ((∃ l, Wv Ec o l ∧ ∃ l_4, Ow Ei64 d_2.2.2.1.2.2.2.2.2.1 l_4 1 ∧ ∃ l_5, Sa Eu64 d_2.2.2.2.1 l_5 ∧ ∃ l_6, Sa Ei16 d_2.2.2.2.2.1 l_6 ∧ ∃ l_7, Wv Ei32 d_2.2.1.1 l_7 ∧ ∃ l_8, Sa En d.2.1 l_8 ∧ ∃ (l_9 : List Near), (WkL (R.flatMap En.f ++ [I64 x_1, I64 (-1)]) (l_9.flatMap En.f) ∧ R.length.add 1 = l_9.length ∧ 2 = 2) ∧ true = true ∧ N (((), (), (), (), (), (), (), l, n, wrapF .i64 (i.add 1), ()), (d_2.2.2.1.1, d_2.2.2.1.2.1, d_2.2.2.1.2.2.1, d_2.2.2.1.2.2.2.1, d_2.2.2.1.2.2.2.2.1, l_4, ()), l_5, l_6, (), ((), ()), (l_7, ()), (d.1.1, d.1.2.1, ()), l_8, ((), l_9, ()), (), ((), (), ()), ())) ∨ (∃ l, Wv Ec o l ∧ ∃ l, Ow Ei64 d_2.2.2.1.2.2.2.2.2.1 l 1 ∧ ∃ l, Sa Eu64 d_2.2.2.2.1 l ∧ ∃ l, Sa Ei16 d_2.2.2.2.2.1 l ∧ ∃ l, Wv Ei32 d_2.2.1.1 l ∧ False) ∨ ∃ l, Wv Ec o l ∧ False)) ∧ True) ∨ ∃ a : Near, Ag2 x x_5 a ∧ False)) False)) ∧ True))) ∧ True) ∨ False)) ((True ∧ ∃ l, Ow Ei64 x l 1 ∧ ∃ l_1, Sa Eu64 T l_1 ∧ ∃ l_2, Sa Ei16 A l_2 ∧ ∃ l_3, Sa En m l_3 ∧ ∃ l_4, Ow En R l_4 2 ∧ true = true ∧ R0 (uNj o n i d r c t a x T A f k h m R) ((), (), (), ()) ((d, r, c, t, a, l, ()), l_1, l_2, (), (k, h, ()), l_3, ((), l_4, ()), (), ((), (), ()), ())) ∨ (True ∧ ∃ l, Ow Ei64 x l 1 ∧ ∃ l, Sa Eu64 T l ∧ ∃ l, Sa Ei16 A l ∧ False) ∨ True ∧ False)) := by kernel_rfl
abbrev uLj (o : List Cd) (n i d r c : Int) (t a : Nat × Nat) (x T A f : List Int) (k : Int) : exLZ := (((), (), (), (), (), (), (), o, n, i, ()), (d, r, c, t, a, x, ()), T, A, (), ((), ()), (f, ()), (k, (0, 0), ()), [], ((), [], ()), (), ((), (), ()), ())
theorem exLForm0 (o : List Cd) (n i d r c : Int) (t a : Nat × Nat) (x T A f : List Int) (k : Int) (N : exLZ → Prop) (R0 : exLZ → uBz → uNa → Prop) (R1 : exLZ → uBz → uM9 → Prop) (R2 : exLZ → uBz → uM8 → Prop) (R3 : exLZ → uDi → uM7 → Prop) (R4 : exLZ → uDi → uM6 → Prop) : ((runW PP uFd 100).code none 9 95 (loopBody PP 9 8) (mkT (uRj.av id ((), (), (), (), (), (), (), o, n, i, ()))) [] (stL true (uRl.obs id ((d, r, c, t, a, x, ()), T, A, (), ((), ()), (f, ()), (k, (), ()), ((), (), ()), ((), (), ()), ()))) (postL 3 uLb (uCk R0 R1 R2 R3 R4) (uWw ((), (), (), (), (), (), (), o, n, i, ()) ((d, r, c, t, a, x, ()), T, A, (), ((), ()), (f, ()), (k, (), ()), ((), (), ()), ((), (), ()), ())) N)) = ( ifp (!leInt n i) (idxOk i o.length ∧ ∃ x_1, Nt Ec (natOf i) 4 0 o x_1 ∧ ∃ x_2, Nt Ec (natOf i) 4 1 o x_2 ∧ ∃ x_3, Nt Ec (natOf i) 4 2 o x_3 ∧ ∃ x_4, Nt Ec (natOf i) 4 3 o x_4 ∧ (False ∨ true = true ∧ uCm (((), ()), (k, (), ()), ()) ∧ (∀ c_1 d_1, uDk (((), ()), (k, (), ()), ()) c_1 d_1 → ifp c_1.2.1 (2 ≤ 2 ∧ ∃ x_5 : Int, some (I64 c_1.1.1) = some (I64 x_5) ∧ ∃ a_2 : Cd, Ag4 x_1 x_2 x_3 x_4 a_2 ∧ uEo (a_2, ()) ∧ ifp (!leInt (lowV a_2) x_5) ((True ∧ ∃ l, Ow Ei64 x l 1 ∧ ∃ l, Sa Eu64 T l ∧ ∃ l, Sa Ei16 A l ∧ False) ∨ (True ∧ ∃ l, Ow Ei64 x l 1 ∧ ∃ l_1, Sa Eu64 T l_1 ∧ ∃ l_2, Sa Ei16 A l_2 ∧ true = true ∧ R1 (uLj o n i d r c t a x T A f k) ((), (), (), ()) ((d, r, c, t, a, l, ()), l_1, l_2, (), (d_1.1.1, (), ()), ((), (), ()), ((), (), ()), ())) ∨ True ∧ False) ((∃ a : Cd, Ag4 x_1 x_2 x_3 x_4 a ∧ ∃ l, Wv Ei32 f l ∧ False) ∨ ∃ a_3 : Cd, Ag4 x_1 x_2 x_3 x_4 a_3 ∧ ∃ l, Wv Ei32 f l ∧ ∃ l_1, Ow Ei64 x l_1 1 ∧ ∃ l_2, Sa Eu64 T l_2 ∧ ∃ l_3, Sa Ei16 A l_3 ∧ true = true ∧ uE7 ((a_3, (), (), ()), ((), ()), (l, ()), (d, r, c, t, a, l_1, ()), l_2, l_3, (), ()) ∧ (∀ c_2 d_2, uM4 ((a_3, (), (), ()), ((), ()), (l, ()), (d, r, c, t, a, l_1, ()), l_2, l_3, (), ()) c_2 d_2 → 2 ≤ 2 ∧ ifp (!eqInt c_2.2.1 0) ((True ∧ ∃ l, Ow Ei64 d_2.2.2.1.2.2.2.2.2.1 l 1 ∧ ∃ l_4, Sa Eu64 d_2.2.2.2.1 l_4 ∧ ∃ l_5, Sa Ei16 d_2.2.2.2.2.1 l_5 ∧ true = true ∧ R3 (uLj o n i d r c t a x T A f k) ((), c_2.2.1, ()) ((d_2.2.2.1.1, d_2.2.2.1.2.1, d_2.2.2.1.2.2.1, d_2.2.2.1.2.2.2.1, d_2.2.2.1.2.2.2.2.1, l, ()), l_4, l_5, (), ((), (), ()), ())) ∨ True ∧ False) (2 ≤ 2 ∧ ∃ x : Int, some (I64 c_2.1.1) = some (I64 x) ∧ ∃ x_6 : Int, some (I64 c_2.1.2.1) = some (I64 x_6) ∧ ((∃ a : Near, Ag2 x x_6 a ∧ False) ∨ ∃ a : Near, Ag2 x x_6 a ∧ true = true ∧ uCb (((), a, ()), (d_1.1.1, (), ()), ()) ∧ (∀ c d, uDg (((), a, ()), (d_1.1.1, (), ()), ()) c d → True ∧ ((∃ l, Wv Ec o l ∧ ∃ l, Ow Ei64 d_2.2.2.1.2.2.2.2.2.1 l 1 ∧ ∃ l, Sa Eu64 d_2.2.2.2.1 l ∧ ∃ l, Sa Ei16 d_2.2.2.2.2.1 l ∧ ∃ l, Wv Ei32 d_2.2.1.1 l ∧ False) ∨ (∃ l, Wv Ec o l ∧ ∃ l, Ow Ei64 d_2.2.2.1.2.2.2.2.2.1 l 1 ∧ ∃ l, Sa Eu64 d_2.2.2.2.1 l ∧ ∃ l, Sa Ei16 d_2.2.2.2.2.1 l ∧ ∃ l, Wv Ei32 d_2.2.1.1 l ∧ False) ∨ ∃ l, Wv Ec o l ∧ False)) ∧ (∀ c d, uCx (((), a, ()), (d_1.1.1, (), ()), ()) c d → True ∧ ((∃ l, Wv Ec o l ∧ ∃ l_4, Ow Ei64 d_2.2.2.1.2.2.2.2.2.1 l_4 1 ∧ ∃ l_5, Sa Eu64 d_2.2.2.2.1 l_5 ∧ ∃ l_6, Sa Ei16 d_2.2.2.2.2.1 l_6 ∧ ∃ l_7, Wv Ei32 d_2.2.1.1 l_7 ∧ ∃ l_8, Sa En d.2.1 l_8 ∧ ∃ (l_9 : List Near), (WkL [I64 x_1, I64 x_5] (l_9.flatMap En.f) ∧ 1 = l_9.length ∧ 2 = 2) ∧ true = true ∧ N (((), (), (), (), (), (), (), l, n, wrapF .i64 (i.add 1), ()), (d_2.2.2.1.1, d_2.2.2.1.2.1, d_2.2.2.1.2.2.1, d_2.2.2.1.2.2.2.1, d_2.2.2.1.2.2.2.2.1, l_4, ()), l_5, l_6, (), ((), ()), (l_7, ()), (d.1.1, d.1.2.1, ()), l_8, ((), l_9, ()), (), ((), (), ()), ())) ∨ (∃ l, Wv Ec o l ∧ ∃ l, Ow Ei64 d_2.2.2.1.2.2.2.2.2.1 l 1 ∧ ∃ l, Sa Eu64 d_2.2.2.2.1 l ∧ ∃ l, Sa Ei16 d_2.2.2.2.2.1 l ∧ ∃ l, Wv Ei32 d_2.2.1.1 l ∧ False) ∨ ∃ l, Wv Ec o l ∧ False)) ∧ True))) ∧ True)) (2 ≤ 2 ∧ ((∃ a : Cd, Ag4 x_1 x_2 x_3 x_4 a ∧ ∃ l, Wv Ei32 f l ∧ False) ∨ ∃ a_2 : Cd, Ag4 x_1 x_2 x_3 x_4 a_2 ∧ ∃ l, Wv Ei32 f l ∧ ∃ l_1, Ow Ei64 x l_1 1 ∧ ∃ l_2, Sa Eu64 T l_2 ∧ ∃ l_3, Sa Ei16 A l_3 ∧ true = true ∧ uE7 ((a_2, (), (), ()), ((), ()), (l, ()), (d, r, c, t, a, l_1, ()), l_2, l_3, (), ()) ∧ (∀ c_2 d_2, uM4 ((a_2, (), (), ()), ((), ()), (l, ()), (d, r, c, t, a, l_1, ()), l_2, l_3, (), ()) c_2 d_2 → 2 ≤ 2 ∧ ifp (!eqInt c_2.2.1 0) ((True ∧ ∃ l, Ow Ei64 d_2.2.2.1.2.2.2.2.2.1 l 1 ∧ ∃ l_4, Sa Eu64 d_2.2.2.2.1 l_4 ∧ ∃ l_5, Sa Ei16 d_2.2.2.2.2.1 l_5 ∧ true = true ∧ R3 (uLj o n i d r c t a x T A f k) ((), c_2.2.1, ()) ((d_2.2.2.1.1, d_2.2.2.1.2.1, d_2.2.2.1.2.2.1, d_2.2.2.1.2.2.2.1, d_2.2.2.1.2.2.2.2.1, l, ()), l_4, l_5, (), ((), (), ()), ())) ∨ True ∧ False) (2 ≤ 2 ∧ ∃ x : Int, some (I64 c_2.1.1) = some (I64 x) ∧ ∃ x_5 : Int, some (I64 c_2.1.2.1) = some (I64 x_5) ∧ ((∃ a : Near, Ag2 x x_5 a ∧ False) ∨ ∃ a : Near, Ag2 x x_5 a ∧ true = true ∧ uCb (((), a, ()), (d_1.1.1, (), ()), ()) ∧ (∀ c d, uDg (((), a, ()), (d_1.1.1, (), ()), ()) c d → True ∧ ((∃ l, Wv Ec o l ∧ ∃ l, Ow Ei64 d_2.2.2.1.2.2.2.2.2.1 l 1 ∧ ∃ l, Sa Eu64 d_2.2.2.2.1 l ∧ ∃ l, Sa Ei16 d_2.2.2.2.2.1 l ∧ ∃ l, Wv Ei32 d_2.2.1.1 l ∧ False) ∨ (∃ l, Wv Ec o l ∧ ∃ l, Ow Ei64 d_2.2.2.1.2.2.2.2.2.1 l 1 ∧ ∃ l, Sa Eu64 d_2.2.2.2.1 l ∧ ∃ l, Sa Ei16 d_2.2.2.2.2.1 l ∧ ∃ l, Wv Ei32 d_2.2.1.1 l ∧ False) ∨ ∃ l, Wv Ec o l ∧ False)) ∧ (∀ c d, uCx (((), a, ()), (d_1.1.1, (), ()), ()) c d → True ∧ ((∃ l, Wv Ec o l ∧ ∃ l_4, Ow Ei64 d_2.2.2.1.2.2.2.2.2.1 l_4 1 ∧ ∃ l_5, Sa Eu64 d_2.2.2.2.1 l_5 ∧ ∃ l_6, Sa Ei16 d_2.2.2.2.2.1 l_6 ∧ ∃ l_7, Wv Ei32 d_2.2.1.1 l_7 ∧ ∃ l_8, Sa En d.2.1 l_8 ∧ ∃ (l_9 : List Near), (WkL [I64 x_1, I64 (-1)] (l_9.flatMap En.f) ∧ 1 = l_9.length ∧ 2 = 2) ∧ true = true ∧ N (((), (), (), (), (), (), (), l, n, wrapF .i64 (i.add 1), ()), (d_2.2.2.1.1, d_2.2.2.1.2.1, d_2.2.2.1.2.2.1, d_2.2.2.1.2.2.2.1, d_2.2.2.1.2.2.2.2.1, l_4, ()), l_5, l_6, (), ((), ()), (l_7, ()), (d.1.1, d.1.2.1, ()), l_8, ((), l_9, ()), (), ((), (), ()), ())) ∨ (∃ l, Wv Ec o l ∧ ∃ l, Ow Ei64 d_2.2.2.1.2.2.2.2.2.1 l 1 ∧ ∃ l, Sa Eu64 d_2.2.2.2.1 l ∧ ∃ l, Sa Ei16 d_2.2.2.2.2.1 l ∧ ∃ l, Wv Ei32 d_2.2.1.1 l ∧ False) ∨ ∃ l, Wv Ec o l ∧ False)) ∧ True))) ∧ True))) ∧ True)) ((True ∧ ∃ l, Ow Ei64 x l 1 ∧ ∃ l, Sa Eu64 T l ∧ ∃ l, Sa Ei16 A l ∧ False) ∨ (True ∧ ∃ l, Ow Ei64 x l 1 ∧ ∃ l_1, Sa Eu64 T l_1 ∧ ∃ l_2, Sa Ei16 A l_2 ∧ true = true ∧ R1 (uLj o n i d r c t a x T A f k) ((), (), (), ()) ((d, r, c, t, a, l, ()), l_1, l_2, (), (k, (), ()), ((), (), ()), ((), (), ()), ())) ∨ True ∧ False)) := by kernel_rfl
abbrev uE5 (o : List Cd) (n i d r c : Int) (t a : Nat × Nat) (T A f : List Int) (k : Int) : exLZ := (((), (), (), (), (), (), (), o, n, i, ()), (d, r, c, t, a, [], ()), T, A, (), ((), ()), (f, ()), (k, (0, 0), ()), [], ((), [], ()), (), ((), (), ()), ())
theorem exLForm1 (o : List Cd) (n i d r c : Int) (t a : Nat × Nat) (T A f : List Int) (k : Int) (N : exLZ → Prop) (R0 : exLZ → uBz → uNa → Prop) (R1 : exLZ → uBz → uM9 → Prop) (R2 : exLZ → uBz → uM8 → Prop) (R3 : exLZ → uDi → uM7 → Prop) (R4 : exLZ → uDi → uM6 → Prop) : ((runW PP uFd 100).code none 9 95 (loopBody PP 9 8) (mkT (uRi.av id ((), (), (), (), (), (), (), o, n, i, ()))) [] (stL true (uRk.obs id ((d, r, c, t, a, (), ()), T, A, ((), ()), (f, ()), (k, (), ()), ((), (), ()), ((), (), ()), ()))) (postL 3 uLb (uCk R0 R1 R2 R3 R4) (uWv ((), (), (), (), (), (), (), o, n, i, ()) ((d, r, c, t, a, (), ()), T, A, ((), ()), (f, ()), (k, (), ()), ((), (), ()), ((), (), ()), ())) N)) = ( ifp (!leInt n i) (idxOk i o.length ∧ ∃ x, Nt Ec (natOf i) 4 0 o x ∧ ∃ x_1, Nt Ec (natOf i) 4 1 o x_1 ∧ ∃ x_2, Nt Ec (natOf i) 4 2 o x_2 ∧ ∃ x_3, Nt Ec (natOf i) 4 3 o x_3 ∧ (False ∨ true = true ∧ uCm (((), ()), (k, (), ()), ()) ∧ (∀ c_1 d_1, uDk (((), ()), (k, (), ()), ()) c_1 d_1 → ifp c_1.2.1 (2 ≤ 2 ∧ ∃ x_4 : Int, some (I64 c_1.1.1) = some (I64 x_4) ∧ ∃ a_2 : Cd, Ag4 x x_1 x_2 x_3 a_2 ∧ uEo (a_2, ()) ∧ ifp (!leInt (lowV a_2) x_4) (True ∧ False ∨ True ∧ False ∨ True ∧ ∃ l, Sa Eu64 T l ∧ ∃ l_1, Sa Ei16 A l_1 ∧ true = true ∧ R2 (uE5 o n i d r c t a T A f k) ((), (), (), ()) ((d, r, c, t, a, (), ()), l, l_1, (d_1.1.1, (), ()), ((), (), ()), ((), (), ()), ())) ((∃ a_3 : Cd, Ag4 x x_1 x_2 x_3 a_3 ∧ ∃ l, Wv Ei32 f l ∧ ∃ l_1, Sa Eu64 T l_1 ∧ ∃ l_2, Sa Ei16 A l_2 ∧ true = true ∧ uLx ((a_3, (), (), ()), ((), ()), (l, ()), (d, r, c, t, a, (), ()), l_1, l_2, ()) ∧ (∀ c_2 d_2, uSb ((a_3, (), (), ()), ((), ()), (l, ()), (d, r, c, t, a, (), ()), l_1, l_2, ()) c_2 d_2 → 2 ≤ 2 ∧ ifp (!eqInt c_2.2.1 0) (True ∧ False ∨ True ∧ ∃ l, Sa Eu64 d_2.2.2.2.1 l ∧ ∃ l_3, Sa Ei16 d_2.2.2.2.2.1 l_3 ∧ true = true ∧ R4 (uE5 o n i d r c t a T A f k) ((), c_2.2.1, ()) ((d_2.2.2.1.1, d_2.2.2.1.2.1, d_2.2.2.1.2.2.1, d_2.2.2.1.2.2.2.1, d_2.2.2.1.2.2.2.2.1, (), ()), l, l_3, ((), (), ()), ())) (2 ≤ 2 ∧ ∃ x : Int, some (I64 c_2.1.1) = some (I64 x) ∧ ∃ x_5 : Int, some (I64 c_2.1.2.1) = some (I64 x_5) ∧ ((∃ a : Near, Ag2 x x_5 a ∧ False) ∨ ∃ a : Near, Ag2 x x_5 a ∧ true = true ∧ uCb (((), a, ()), (d_1.1.1, (), ()), ()) ∧ (∀ c d, uDg (((), a, ()), (d_1.1.1, (), ()), ()) c d → True ∧ ((∃ l, Wv Ec o l ∧ False) ∨ (∃ l, Wv Ec o l ∧ False) ∨ ∃ l, Wv Ec o l ∧ ∃ l, Sa Eu64 d_2.2.2.2.1 l ∧ ∃ l, Sa Ei16 d_2.2.2.2.2.1 l ∧ ∃ l, Wv Ei32 d_2.2.1.1 l ∧ False)) ∧ (∀ c d, uCx (((), a, ()), (d_1.1.1, (), ()), ()) c d → True ∧ ((∃ l, Wv Ec o l ∧ False) ∨ (∃ l, Wv Ec o l ∧ False) ∨ ∃ l, Wv Ec o l ∧ ∃ l, Sa Eu64 d_2.2.2.2.1 l ∧ ∃ l, Sa Ei16 d_2.2.2.2.2.1 l ∧ ∃ l, Wv Ei32 d_2.2.1.1 l ∧ False)) ∧ True))) ∧ (∀ c_2 d_2, uSa ((a_3, (), (), ()), ((), ()), (l, ()), (d, r, c, t, a, (), ()), l_1, l_2, ()) c_2 d_2 → 2 ≤ 2 ∧ ifp (!eqInt c_2.2.1 0) ((True ∧ ∃ l, Ow Ei64 d_2.2.2.1.2.2.2.2.2.1 l 1 ∧ ∃ l_3, Sa Eu64 d_2.2.2.2.1 l_3 ∧ ∃ l_4, Sa Ei16 d_2.2.2.2.2.1 l_4 ∧ true = true ∧ R3 (uE5 o n i d r c t a T A f k) ((), c_2.2.1, ()) ((d_2.2.2.1.1, d_2.2.2.1.2.1, d_2.2.2.1.2.2.1, d_2.2.2.1.2.2.2.1, d_2.2.2.1.2.2.2.2.1, l, ()), l_3, l_4, (), ((), (), ()), ())) ∨ True ∧ False) (2 ≤ 2 ∧ ∃ x_5 : Int, some (I64 c_2.1.1) = some (I64 x_5) ∧ ∃ x_6 : Int, some (I64 c_2.1.2.1) = some (I64 x_6) ∧ ((∃ a : Near, Ag2 x_5 x_6 a ∧ False) ∨ ∃ a : Near, Ag2 x_5 x_6 a ∧ true = true ∧ uCb (((), a, ()), (d_1.1.1, (), ()), ()) ∧ (∀ c d, uDg (((), a, ()), (d_1.1.1, (), ()), ()) c d → True ∧ ((∃ l, Wv Ec o l ∧ ∃ l, Ow Ei64 d_2.2.2.1.2.2.2.2.2.1 l 1 ∧ ∃ l, Sa Eu64 d_2.2.2.2.1 l ∧ ∃ l, Sa Ei16 d_2.2.2.2.2.1 l ∧ ∃ l, Wv Ei32 d_2.2.1.1 l ∧ False) ∨ (∃ l, Wv Ec o l ∧ ∃ l, Ow Ei64 d_2.2.2.1.2.2.2.2.2.1 l 1 ∧ ∃ l, Sa Eu64 d_2.2.2.2.1 l ∧ ∃ l, Sa Ei16 d_2.2.2.2.2.1 l ∧ ∃ l, Wv Ei32 d_2.2.1.1 l ∧ False) ∨ ∃ l, Wv Ec o l ∧ False)) ∧ (∀ c d, uCx (((), a, ()), (d_1.1.1, (), ()), ()) c d → True ∧ ((∃ l, Wv Ec o l ∧ ∃ l_3, Ow Ei64 d_2.2.2.1.2.2.2.2.2.1 l_3 1 ∧ ∃ l_4, Sa Eu64 d_2.2.2.2.1 l_4 ∧ ∃ l_5, Sa Ei16 d_2.2.2.2.2.1 l_5 ∧ ∃ l_6, Wv Ei32 d_2.2.1.1 l_6 ∧ ∃ l_7, Sa En d.2.1 l_7 ∧ ∃ (l_8 : List Near), (WkL [I64 x, I64 x_4] (l_8.flatMap En.f) ∧ 1 = l_8.length ∧ 2 = 2) ∧ true = true ∧ N (((), (), (), (), (), (), (), l, n, wrapF .i64 (i.add 1), ()), (d_2.2.2.1.1, d_2.2.2.1.2.1, d_2.2.2.1.2.2.1, d_2.2.2.1.2.2.2.1, d_2.2.2.1.2.2.2.2.1, l_3, ()), l_4, l_5, (), ((), ()), (l_6, ()), (d.1.1, d.1.2.1, ()), l_7, ((), l_8, ()), (), ((), (), ()), ())) ∨ (∃ l, Wv Ec o l ∧ ∃ l, Ow Ei64 d_2.2.2.1.2.2.2.2.2.1 l 1 ∧ ∃ l, Sa Eu64 d_2.2.2.2.1 l ∧ ∃ l, Sa Ei16 d_2.2.2.2.2.1 l ∧ ∃ l, Wv Ei32 d_2.2.1.1 l ∧ False) ∨ ∃ l, Wv Ec o l ∧ False)) ∧ True))) ∧ True) ∨ ∃ a : Cd, Ag4 x x_1 x_2 x_3 a ∧ ∃ l, Wv Ei32 f l ∧ False)) (2 ≤ 2 ∧ ((∃ a_2 : Cd, Ag4 x x_1 x_2 x_3 a_2 ∧ ∃ l, Wv Ei32 f l ∧ ∃ l_1, Sa Eu64 T l_1 ∧ ∃ l_2, Sa Ei16 A l_2 ∧ true = true ∧ uLx ((a_2, (), (), ()), ((), ()), (l, ()), (d, r, c, t, a, (), ()), l_1, l_2, ()) ∧ (∀ c_2 d_2, uSb ((a_2, (), (), ()), ((), ()), (l, ()), (d, r, c, t, a, (), ()), l_1, l_2, ()) c_2 d_2 → 2 ≤ 2 ∧ ifp (!eqInt c_2.2.1 0) (True ∧ False ∨ True ∧ ∃ l, Sa Eu64 d_2.2.2.2.1 l ∧ ∃ l_3, Sa Ei16 d_2.2.2.2.2.1 l_3 ∧ true = true ∧ R4 (uE5 o n i d r c t a T A f k) ((), c_2.2.1, ()) ((d_2.2.2.1.1, d_2.2.2.1.2.1, d_2.2.2.1.2.2.1, d_2.2.2.1.2.2.2.1, d_2.2.2.1.2.2.2.2.1, (), ()), l, l_3, ((), (), ()), ())) (2 ≤ 2 ∧ ∃ x : Int, some (I64 c_2.1.1) = some (I64 x) ∧ ∃ x_4 : Int, some (I64 c_2.1.2.1) = some (I64 x_4) ∧ ((∃ a : Near, Ag2 x x_4 a ∧ False) ∨ ∃ a : Near, Ag2 x x_4 a ∧ true = true ∧ uCb (((), a, ()), (d_1.1.1, (), ()), ()) ∧ (∀ c d, uDg (((), a, ()), (d_1.1.1, (), ()), ()) c d → True ∧ ((∃ l, Wv Ec o l ∧ False) ∨ (∃ l, Wv Ec o l ∧ False) ∨ ∃ l, Wv Ec o l ∧ ∃ l, Sa Eu64 d_2.2.2.2.1 l ∧ ∃ l, Sa Ei16 d_2.2.2.2.2.1 l ∧ ∃ l, Wv Ei32 d_2.2.1.1 l ∧ False)) ∧ (∀ c d, uCx (((), a, ()), (d_1.1.1, (), ()), ()) c d → True ∧ ((∃ l, Wv Ec o l ∧ False) ∨ (∃ l, Wv Ec o l ∧ False) ∨ ∃ l, Wv Ec o l ∧ ∃ l, Sa Eu64 d_2.2.2.2.1 l ∧ ∃ l, Sa Ei16 d_2.2.2.2.2.1 l ∧ ∃ l, Wv Ei32 d_2.2.1.1 l ∧ False)) ∧ True))) ∧ (∀ c_2 d_2, uSa ((a_2, (), (), ()), ((), ()), (l, ()), (d, r, c, t, a, (), ()), l_1, l_2, ()) c_2 d_2 → 2 ≤ 2 ∧ ifp (!eqInt c_2.2.1 0) ((True ∧ ∃ l, Ow Ei64 d_2.2.2.1.2.2.2.2.2.1 l 1 ∧ ∃ l_3, Sa Eu64 d_2.2.2.2.1 l_3 ∧ ∃ l_4, Sa Ei16 d_2.2.2.2.2.1 l_4 ∧ true = true ∧ R3 (uE5 o n i d r c t a T A f k) ((), c_2.2.1, ()) ((d_2.2.2.1.1, d_2.2.2.1.2.1, d_2.2.2.1.2.2.1, d_2.2.2.1.2.2.2.1, d_2.2.2.1.2.2.2.2.1, l, ()), l_3, l_4, (), ((), (), ()), ())) ∨ True ∧ False) (2 ≤ 2 ∧ ∃ x_4 : Int, some (I64 c_2.1.1) = some (I64 x_4) ∧ ∃ x_5 : Int, some (I64 c_2.1.2.1) = some (I64 x_5) ∧ ((∃ a : Near, Ag2 x_4 x_5 a ∧ False) ∨ ∃ a : Near, Ag2 x_4 x_5 a ∧ true = true ∧ uCb (((), a, ()), (d_1.1.1, (), ()), ()) ∧ (∀ c d, uDg (((), a, ()), (d_1.1.1, (), ()), ()) c d → True ∧ ((∃ l, Wv Ec o l ∧ ∃ l, Ow Ei64 d_2.2.2.1.2.2.2.2.2.1 l 1 ∧ ∃ l, Sa Eu64 d_2.2.2.2.1 l ∧ ∃ l, Sa Ei16 d_2.2.2.2.2.1 l ∧ ∃ l, Wv Ei32 d_2.2.1.1 l ∧ False) ∨ (∃ l, Wv Ec o l ∧ ∃ l, Ow Ei64 d_2.2.2.1.2.2.2.2.2.1 l 1 ∧ ∃ l, Sa Eu64 d_2.2.2.2.1 l ∧ ∃ l, Sa Ei16 d_2.2.2.2.2.1 l ∧ ∃ l, Wv Ei32 d_2.2.1.1 l ∧ False) ∨ ∃ l, Wv Ec o l ∧ False)) ∧ (∀ c d, uCx (((), a, ()), (d_1.1.1, (), ()), ()) c d → True ∧ ((∃ l, Wv Ec o l ∧ ∃ l_3, Ow Ei64 d_2.2.2.1.2.2.2.2.2.1 l_3 1 ∧ ∃ l_4, Sa Eu64 d_2.2.2.2.1 l_4 ∧ ∃ l_5, Sa Ei16 d_2.2.2.2.2.1 l_5 ∧ ∃ l_6, Wv Ei32 d_2.2.1.1 l_6 ∧ ∃ l_7, Sa En d.2.1 l_7 ∧ ∃ (l_8 : List Near), (WkL [I64 x, I64 (-1)] (l_8.flatMap En.f) ∧ 1 = l_8.length ∧ 2 = 2) ∧ true = true ∧ N (((), (), (), (), (), (), (), l, n, wrapF .i64 (i.add 1), ()), (d_2.2.2.1.1, d_2.2.2.1.2.1, d_2.2.2.1.2.2.1, d_2.2.2.1.2.2.2.1, d_2.2.2.1.2.2.2.2.1, l_3, ()), l_4, l_5, (), ((), ()), (l_6, ()), (d.1.1, d.1.2.1, ()), l_7, ((), l_8, ()), (), ((), (), ()), ())) ∨ (∃ l, Wv Ec o l ∧ ∃ l, Ow Ei64 d_2.2.2.1.2.2.2.2.2.1 l 1 ∧ ∃ l, Sa Eu64 d_2.2.2.2.1 l ∧ ∃ l, Sa Ei16 d_2.2.2.2.2.1 l ∧ ∃ l, Wv Ei32 d_2.2.1.1 l ∧ False) ∨ ∃ l, Wv Ec o l ∧ False)) ∧ True))) ∧ True) ∨ ∃ a : Cd, Ag4 x x_1 x_2 x_3 a ∧ ∃ l, Wv Ei32 f l ∧ False))) ∧ True)) (True ∧ False ∨ True ∧ False ∨ True ∧ ∃ l, Sa Eu64 T l ∧ ∃ l_1, Sa Ei16 A l_1 ∧ true = true ∧ R2 (uE5 o n i d r c t a T A f k) ((), (), (), ()) ((d, r, c, t, a, (), ()), l, l_1, (k, (), ()), ((), (), ()), ((), (), ()), ()))) := by kernel_rfl
def uFi : exLZ → Prop := fun (((), (), (), (), (), (), (), o, n, i, ()), (d, r, c, t, a, x, ()), T, A, (), ((), ()), (f, ()), (k, h, ()), m, ((), R, ()), (), ((), (), ()), ()) => ∃ (q : Nat) (V : List (List Int)) (L : List Near), i = q ∧ n = o.length ∧ q ≤ o.length ∧ o.length ≤ 60 ∧ (∀ u ∈ o, u.2.2.2.1 < 9223372036854775808) ∧ SlOk d r c t a T A V ∧ 0 < k ∧ h = (m.length, m.length) ∧ TopOk k m L ∧ m.length ≤ q ∧ R.length ≤ q ∧ x.length ≤ 999900 + q
def uSt : exLZ → Nat := fun (((), (), (), (), (), (), (), o, n, i, ()), (d, r, c, t, a, x, ()), T, A, (), ((), ()), (f, ()), (k, h, ()), m, ((), R, ()), (), ((), (), ()), ()) => o.length - i.toNat
def uNi : exLZ → uBz → uNa → Prop := fun (((), (), (), (), (), (), (), o, n, i, ()), (d, r, c, t, a, x, ()), T, A, (), ((), ()), (f, ()), (k, h, ()), m, ((), R, ()), (), ((), (), ()), ()) _ ((d2, r2, c2, t2, a2, x2, _), T2, A2, _, (k2, h2, _), m2, (_, R2, _), _) => d2 = d ∧ r2 = r ∧ c2 = c ∧ t2 = t ∧ a2 = a ∧ T2 = T ∧ A2 = A ∧ x2.length + i.toNat ≤ x.length + o.length ∧ k2 = k ∧ h2 = (m2.length, m2.length) ∧ m2.length ≤ 60 ∧ ∀ V L, SlOk d r c t a T A V → TopOk k m L → ∃ L2, TopOk k m2 L2 ∧ exF f V k (o.drop i.toNat) L R = ((L2, R2), 0)
def uNh : exLZ → uBz → uM9 → Prop := fun (((), (), (), (), (), (), (), o, n, i, ()), (d, r, c, t, a, x, ()), T, A, (), ((), ()), (f, ()), (k, h, ()), m, ((), R, ()), (), ((), (), ()), ()) _ ((d2, r2, c2, t2, a2, x2, _), T2, A2, _) => d2 = d ∧ r2 = r ∧ c2 = c ∧ t2 = t ∧ a2 = a ∧ T2 = T ∧ A2 = A ∧ x2.length + i.toNat ≤ x.length + o.length ∧ ∀ V L, SlOk d r c t a T A V → TopOk k m L → exF f V k (o.drop i.toNat) L R = (([], []), 0)
def uNg : exLZ → uBz → uM8 → Prop := fun (((), (), (), (), (), (), (), o, n, i, ()), (d, r, c, t, a, x, ()), T, A, (), ((), ()), (f, ()), (k, h, ()), m, ((), R, ()), (), ((), (), ()), ()) _ ((d2, r2, c2, t2, a2, _), T2, A2, _) => d2 = d ∧ r2 = r ∧ c2 = c ∧ t2 = t ∧ a2 = a ∧ T2 = T ∧ A2 = A ∧ ∀ V L, SlOk d r c t a T A V → TopOk k m L → exF f V k (o.drop i.toNat) L R = (([], []), 0)
def uNf : exLZ → uDi → uM7 → Prop := fun (((), (), (), (), (), (), (), o, n, i, ()), (d, r, c, t, a, x, ()), T, A, (), ((), ()), (f, ()), (k, h, ()), m, ((), R, ()), (), ((), (), ()), ()) (_, e, _) ((d2, r2, c2, t2, a2, x2, _), T2, A2, _) => d2 = d ∧ r2 = r ∧ c2 = c ∧ t2 = t ∧ a2 = a ∧ T2 = T ∧ A2 = A ∧ x2.length + i.toNat ≤ x.length + o.length ∧ e ≠ 0 ∧ ∀ V L, SlOk d r c t a T A V → TopOk k m L → exF f V k (o.drop i.toNat) L R = (([], []), e)
def uSs : exLZ → uDi → uM6 → Prop := fun (((), (), (), (), (), (), (), o, n, i, ()), (d, r, c, t, a, x, ()), T, A, (), ((), ()), (f, ()), (k, h, ()), m, ((), R, ()), (), ((), (), ()), ()) (_, e, _) ((d2, r2, c2, t2, a2, _), T2, A2, _) => d2 = d ∧ r2 = r ∧ c2 = c ∧ t2 = t ∧ a2 = a ∧ T2 = T ∧ A2 = A ∧ e ≠ 0 ∧ ∀ V L, SlOk d r c t a T A V → TopOk k m L → exF f V k (o.drop i.toNat) L R = (([], []), e)
noncomputable def exLC : LoopC := loopC 3 uLb (uCk uNi uNh uNg uNf uSs) uFi
theorem exLStep : stepsOk PP uFd 100 9 95 (loopBody PP 9 8) 3 true uLb (uCk uNi uNh uNg uNf uSs) uFi uSt ⟨_, _, uWx, uWy, fun x y => (x, y)⟩ := by
 intro x y hz
 obtain ⟨_, _, _, _, _, _, _, o, n, i, _⟩ := x
 obtain ⟨⟨d, r, c, t, a, x, _⟩, T, A, _, ⟨_, _⟩, ⟨f, _⟩, ⟨k, h, _⟩, m, ⟨_, R, _⟩, _, ⟨_, _, _⟩, _⟩ := y
 refine (exLForm o n i d r c t a x T A f k h m R _ _ _ _ _ _).mpr ?_
 obtain ⟨q, V, L, rfl, rfl, hq, hol, hos, hV, hk0, rfl, hT, hmq, hRq, hxq⟩ := hz
 rw [ifp_lt]
 simp only [natOf_nat]
 split
 ·rename_i hlt
  have hql : q < o.length := by simpa using hlt
  refine ⟨idx_ok hql, _, uGv hql, _, uGu hql, _, uGt hql, _, uGs hql, Or.inl ⟨m, rfl, (by trivial), rfl, fun cw dw hw => ?_, trivial⟩⟩
  obtain ⟨nw, fw, _⟩ := cw
  obtain ⟨⟨k2, h2, _⟩, m2, _⟩ := dw
  obtain ⟨hwv, hk2, hh2, hm2⟩ := hw
  obtain rfl : k = k2 := hk2.symm
  obtain rfl : h2 = (m.length, m.length) := hh2
  obtain rfl : m = m2 := hm2.symm
  have hE : ∀ V' L', SlOk d r c t a T A V' → TopOk k m L' → (nw, fw) = uAf k L' := fun V' L' _ hT' => hwv.trans hT'.uT9
  dsimp only
  cases hfw : fw with
  | true =>
   rw [ifp_pos rfl]
   refine ⟨Nat.le_refl _, nw.1, rfl, o[q], rfl, trivial, ?_⟩
   rw [ifp_lt]
   split
   ·rename_i hfar
    refine Or.inl ⟨trivial, x, ⟨WkL.refl _, (by trivial), (by trivial)⟩, T, rfl, A, rfl, m, rfl, R, ⟨WkL.refl _, (by trivial), (by trivial)⟩, (by trivial), rfl, rfl, rfl, rfl, rfl, rfl, rfl, by show x.length + q ≤ _; omega, rfl, rfl, by show m.length ≤ 60; omega, fun V' L' hV' hT' => ⟨L', hT', ?_⟩⟩
    show exF f V' k (o.drop q) L' R = _
    rw [drop_get hql, exF, ← hE V' L' hV' hT', if_pos ⟨hfw, hfar⟩]
   ·rename_i hnf
    refine Or.inr ⟨o[q], rfl, f, Wk.refl _, x, ⟨WkL.refl _, (by trivial), (by trivial)⟩, T, rfl, A, rfl, (by trivial), ⟨hos _ (List.getElem_mem hql), by show x.length ≤ _; omega, V, hV⟩, fun cr dr hr => ?_, trivial⟩
    obtain ⟨w, e, _⟩ := cr
    obtain ⟨_, ⟨f2, _⟩, ⟨d2, r2, c2, t2, a2, x2, _⟩, T2, A2, _, _⟩ := dr
    obtain ⟨q1, q2, q3, q4, q5, q6, q7, q8, hx2, hre⟩ := hr
    obtain rfl : d = d2 := q1.symm
    obtain rfl : r = r2 := q2.symm
    obtain rfl : c = c2 := q3.symm
    obtain rfl : t = t2 := q4.symm
    obtain rfl : a = a2 := q5.symm
    obtain rfl : f = f2 := q6.symm
    obtain rfl : T = T2 := q7.symm
    obtain rfl : A = A2 := q8.symm
    have hx2' : x2.length ≤ x.length + 1 := hx2
    have hxl0 : x.length ≤ 999900 + q := hxq
    dsimp only
    refine ⟨Nat.le_refl _, ?_⟩
    rw [ifp_ne]
    split
    ·rename_i he0
     obtain rfl : e = 0 := he0
     refine ⟨Nat.le_refl _, ?_⟩
     rw [ifp_pos (roomy_small (by show R.length + 1 ≤ _; omega) (by decide))]
     refine ⟨w.1, rfl, w.2.1, rfl, Or.inl ⟨w, rfl, m, rfl, (by trivial), ⟨rfl, hT.h, by omega, by omega⟩, fun ca da ha => ?_, trivial⟩⟩
     obtain ⟨b, e3, _⟩ := ca
     obtain ⟨⟨k3, h3, _⟩, m3, _⟩ := da
     obtain ⟨_, hk3, hh3, hadd⟩ := ha
     obtain rfl : k = k3 := hk3.symm
     obtain rfl : h3 = (m3.length, m3.length) := hh3
     obtain ⟨hb, hT3⟩ := hT.add (by omega) hadd
     refine ⟨trivial, Or.inl ⟨o, Wk.refl _, x2, ⟨WkL.refl _, (by trivial), (by trivial)⟩, T, rfl, A, rfl, f, Wk.refl _, m3, rfl, R ++ [(o[q].1, nw.1, ())], ⟨wkl_snoc (E := En) (WkL.refl _), len_snoc, (by trivial)⟩, (by trivial), ?_⟩⟩
     rw [wsucc (by omega)]
     have hstep : ∀ V' L', SlOk d r c t a T A V' → TopOk k m L' → exF f V' k (o.drop q) L' R = exF f V' k (o.drop (q + 1)) (uAn k L' w) (R ++ [(o[q].1, nw.1, ())]) := fun V' L' hV' hT' => by
      rw [drop_get hql, exF, ← hE V' L' hV' hT', ← hre V' hV', if_neg (show ¬ (fw = true ∧ nw.1 < lowV o[q]) by rintro ⟨_, h9⟩; exact hnf h9), if_neg (by simp)]
      simp only [hfw, if_true]
     have hl3 : m3.length ≤ q + 1 := by
      unfold uCl at hadd
      split at hadd
      ·have := hadd.2.1.length_eq; simp at this; omega
      ·split at hadd
       ·rw [hadd.2]; omega
       ·have := hadd.2.1.length_eq; simp at this; omega
     refine ⟨⟨q + 1, V, uAn k L w, rfl, rfl, hql, hol, hos, hV, hk0, rfl, hT3, hl3, by show (R ++ [_]).length ≤ q + 1; simp; omega, by show x2.length ≤ 999900 + (q + 1); omega⟩, by show o.length - (q + 1) < o.length - q; omega, fun cc dd hh => ?_, fun cc dd hh => ?_, fun cc dd hh => ?_, fun cc dd hh => ?_, fun cc dd hh => ?_, trivial⟩
     ·obtain ⟨⟨d9, r9, c9, t9, a9, x9, _⟩, T9, A9, _, ⟨k9, h9, _⟩, m9, ⟨_, R9, _⟩, _⟩ := dd
      obtain ⟨g1, g2, g3, g4, g5, g6, g7, gx, g8, g9, g10, gE⟩ := hh
      have gx' : x9.length + (q + 1) ≤ x2.length + o.length := gx
      exact ⟨g1, g2, g3, g4, g5, g6, g7, by show x9.length + q ≤ x.length + o.length; omega, g8, g9, g10, fun V' L' hV' hT' => by
       obtain ⟨L2, y1, y2⟩ := gE V' (uAn k L' w) hV' (hT'.add (by omega) hadd).2
       exact ⟨L2, y1, (hstep V' L' hV' hT').trans y2⟩⟩
     ·obtain ⟨⟨d9, r9, c9, t9, a9, x9, _⟩, T9, A9, _⟩ := dd
      obtain ⟨g1, g2, g3, g4, g5, g6, g7, gx, gE⟩ := hh
      have gx' : x9.length + (q + 1) ≤ x2.length + o.length := gx
      exact ⟨g1, g2, g3, g4, g5, g6, g7, by show x9.length + q ≤ x.length + o.length; omega, fun V' L' hV' hT' => (hstep V' L' hV' hT').trans (gE V' (uAn k L' w) hV' (hT'.add (by omega) hadd).2)⟩
     ·obtain ⟨⟨d9, r9, c9, t9, a9, _⟩, T9, A9, _⟩ := dd
      obtain ⟨g1, g2, g3, g4, g5, g6, g7, gE⟩ := hh
      exact ⟨g1, g2, g3, g4, g5, g6, g7, fun V' L' hV' hT' => (hstep V' L' hV' hT').trans (gE V' (uAn k L' w) hV' (hT'.add (by omega) hadd).2)⟩
     ·obtain ⟨_, e9, _⟩ := cc
      obtain ⟨⟨d9, r9, c9, t9, a9, x9, _⟩, T9, A9, _⟩ := dd
      obtain ⟨g1, g2, g3, g4, g5, g6, g7, gx, ge, gE⟩ := hh
      have gx' : x9.length + (q + 1) ≤ x2.length + o.length := gx
      exact ⟨g1, g2, g3, g4, g5, g6, g7, by show x9.length + q ≤ x.length + o.length; omega, ge, fun V' L' hV' hT' => (hstep V' L' hV' hT').trans (gE V' (uAn k L' w) hV' (hT'.add (by omega) hadd).2)⟩
     ·obtain ⟨_, e9, _⟩ := cc
      obtain ⟨⟨d9, r9, c9, t9, a9, _⟩, T9, A9, _⟩ := dd
      obtain ⟨g1, g2, g3, g4, g5, g6, g7, ge, gE⟩ := hh
      exact ⟨g1, g2, g3, g4, g5, g6, g7, ge, fun V' L' hV' hT' => (hstep V' L' hV' hT').trans (gE V' (uAn k L' w) hV' (hT'.add (by omega) hadd).2)⟩
    ·rename_i he0
     exact Or.inl ⟨ trivial, x2, ⟨WkL.refl _, (by trivial), (by trivial)⟩, T, rfl, A, rfl, (by trivial), rfl, rfl, rfl, rfl, rfl, rfl, rfl, by show x2.length + q ≤ x.length + o.length; omega, he0, fun V' L' hV' hT' => by
      show exF f V' k (o.drop q) L' R = _
      rw [drop_get hql, exF, ← hE V' L' hV' hT', ← hre V' hV', if_neg (show ¬ (fw = true ∧ nw.1 < lowV o[q]) by rintro ⟨_, h9⟩; exact hnf h9), if_pos he0]⟩
  | false =>
   rw [ifp_neg rfl]
   refine ⟨Nat.le_refl _, ?_⟩
   refine Or.inr ⟨o[q], rfl, f, Wk.refl _, x, ⟨WkL.refl _, (by trivial), (by trivial)⟩, T, rfl, A, rfl, (by trivial), ⟨hos _ (List.getElem_mem hql), by show x.length ≤ _; omega, V, hV⟩, fun cr dr hr => ?_, trivial⟩
   obtain ⟨w, e, _⟩ := cr
   obtain ⟨_, ⟨f2, _⟩, ⟨d2, r2, c2, t2, a2, x2, _⟩, T2, A2, _, _⟩ := dr
   obtain ⟨q1, q2, q3, q4, q5, q6, q7, q8, hx2, hre⟩ := hr
   obtain rfl : d = d2 := q1.symm
   obtain rfl : r = r2 := q2.symm
   obtain rfl : c = c2 := q3.symm
   obtain rfl : t = t2 := q4.symm
   obtain rfl : a = a2 := q5.symm
   obtain rfl : f = f2 := q6.symm
   obtain rfl : T = T2 := q7.symm
   obtain rfl : A = A2 := q8.symm
   have hx2' : x2.length ≤ x.length + 1 := hx2
   have hxl0 : x.length ≤ 999900 + q := hxq
   dsimp only
   refine ⟨Nat.le_refl _, ?_⟩
   rw [ifp_ne]
   split
   ·rename_i he0
    obtain rfl : e = 0 := he0
    refine ⟨Nat.le_refl _, ?_⟩
    rw [ifp_pos (roomy_small (by show R.length + 1 ≤ _; omega) (by decide))]
    refine ⟨w.1, rfl, w.2.1, rfl, Or.inl ⟨w, rfl, m, rfl, (by trivial), ⟨rfl, hT.h, by omega, by omega⟩, fun ca da ha => ?_, trivial⟩⟩
    obtain ⟨b, e3, _⟩ := ca
    obtain ⟨⟨k3, h3, _⟩, m3, _⟩ := da
    obtain ⟨_, hk3, hh3, hadd⟩ := ha
    obtain rfl : k = k3 := hk3.symm
    obtain rfl : h3 = (m3.length, m3.length) := hh3
    obtain ⟨hb, hT3⟩ := hT.add (by omega) hadd
    refine ⟨trivial, Or.inl ⟨o, Wk.refl _, x2, ⟨WkL.refl _, (by trivial), (by trivial)⟩, T, rfl, A, rfl, f, Wk.refl _, m3, rfl, R ++ [(o[q].1, (-1 : Int), ())], ⟨wkl_snoc (E := En) (WkL.refl _), len_snoc, (by trivial)⟩, (by trivial), ?_⟩⟩
    rw [wsucc (by omega)]
    have hstep : ∀ V' L', SlOk d r c t a T A V' → TopOk k m L' → exF f V' k (o.drop q) L' R = exF f V' k (o.drop (q + 1)) (uAn k L' w) (R ++ [(o[q].1, (-1 : Int), ())]) := fun V' L' hV' hT' => by
     rw [drop_get hql, exF, ← hE V' L' hV' hT', ← hre V' hV', if_neg (show ¬ (fw = true ∧ nw.1 < lowV o[q]) by rw [hfw]; rintro ⟨h9, _⟩; cases h9), if_neg (by simp)]
     simp only [hfw, Bool.false_eq_true, if_false]
    have hl3 : m3.length ≤ q + 1 := by
     unfold uCl at hadd
     split at hadd
     ·have := hadd.2.1.length_eq; simp at this; omega
     ·split at hadd
      ·rw [hadd.2]; omega
      ·have := hadd.2.1.length_eq; simp at this; omega
    refine ⟨⟨q + 1, V, uAn k L w, rfl, rfl, hql, hol, hos, hV, hk0, rfl, hT3, hl3, by show (R ++ [_]).length ≤ q + 1; simp; omega, by show x2.length ≤ 999900 + (q + 1); omega⟩, by show o.length - (q + 1) < o.length - q; omega, fun cc dd hh => ?_, fun cc dd hh => ?_, fun cc dd hh => ?_, fun cc dd hh => ?_, fun cc dd hh => ?_, trivial⟩
    ·obtain ⟨⟨d9, r9, c9, t9, a9, x9, _⟩, T9, A9, _, ⟨k9, h9, _⟩, m9, ⟨_, R9, _⟩, _⟩ := dd
     obtain ⟨g1, g2, g3, g4, g5, g6, g7, gx, g8, g9, g10, gE⟩ := hh
     have gx' : x9.length + (q + 1) ≤ x2.length + o.length := gx
     exact ⟨g1, g2, g3, g4, g5, g6, g7, by show x9.length + q ≤ x.length + o.length; omega, g8, g9, g10, fun V' L' hV' hT' => by
      obtain ⟨L2, y1, y2⟩ := gE V' (uAn k L' w) hV' (hT'.add (by omega) hadd).2
      exact ⟨L2, y1, (hstep V' L' hV' hT').trans y2⟩⟩
    ·obtain ⟨⟨d9, r9, c9, t9, a9, x9, _⟩, T9, A9, _⟩ := dd
     obtain ⟨g1, g2, g3, g4, g5, g6, g7, gx, gE⟩ := hh
     have gx' : x9.length + (q + 1) ≤ x2.length + o.length := gx
     exact ⟨g1, g2, g3, g4, g5, g6, g7, by show x9.length + q ≤ x.length + o.length; omega, fun V' L' hV' hT' => (hstep V' L' hV' hT').trans (gE V' (uAn k L' w) hV' (hT'.add (by omega) hadd).2)⟩
    ·obtain ⟨⟨d9, r9, c9, t9, a9, _⟩, T9, A9, _⟩ := dd
     obtain ⟨g1, g2, g3, g4, g5, g6, g7, gE⟩ := hh
     exact ⟨g1, g2, g3, g4, g5, g6, g7, fun V' L' hV' hT' => (hstep V' L' hV' hT').trans (gE V' (uAn k L' w) hV' (hT'.add (by omega) hadd).2)⟩
    ·obtain ⟨_, e9, _⟩ := cc
     obtain ⟨⟨d9, r9, c9, t9, a9, x9, _⟩, T9, A9, _⟩ := dd
     obtain ⟨g1, g2, g3, g4, g5, g6, g7, gx, ge, gE⟩ := hh
     have gx' : x9.length + (q + 1) ≤ x2.length + o.length := gx
     exact ⟨g1, g2, g3, g4, g5, g6, g7, by show x9.length + q ≤ x.length + o.length; omega, ge, fun V' L' hV' hT' => (hstep V' L' hV' hT').trans (gE V' (uAn k L' w) hV' (hT'.add (by omega) hadd).2)⟩
    ·obtain ⟨_, e9, _⟩ := cc
     obtain ⟨⟨d9, r9, c9, t9, a9, _⟩, T9, A9, _⟩ := dd
     obtain ⟨g1, g2, g3, g4, g5, g6, g7, ge, gE⟩ := hh
     exact ⟨g1, g2, g3, g4, g5, g6, g7, ge, fun V' L' hV' hT' => (hstep V' L' hV' hT').trans (gE V' (uAn k L' w) hV' (hT'.add (by omega) hadd).2)⟩
   ·rename_i he0
    exact Or.inl ⟨ trivial, x2, ⟨WkL.refl _, (by trivial), (by trivial)⟩, T, rfl, A, rfl, (by trivial), rfl, rfl, rfl, rfl, rfl, rfl, rfl, by show x2.length + q ≤ x.length + o.length; omega, he0, fun V' L' hV' hT' => by
     show exF f V' k (o.drop q) L' R = _
     rw [drop_get hql, exF, ← hE V' L' hV' hT', ← hre V' hV', if_neg (show ¬ (fw = true ∧ nw.1 < lowV o[q]) by rw [hfw]; rintro ⟨h9, _⟩; cases h9), if_pos he0]⟩
 ·rename_i hlt
  have hql : ¬ q < o.length := by simpa using hlt
  exact Or.inl ⟨trivial, x, ⟨WkL.refl _, (by trivial), (by trivial)⟩, T, rfl, A, rfl, m, rfl, R, ⟨WkL.refl _, (by trivial), (by trivial)⟩, (by trivial), rfl, rfl, rfl, rfl, rfl, rfl, rfl, by show x.length + q ≤ _; omega, rfl, rfl, by show m.length ≤ 60; omega, fun V' L' hV' hT' => ⟨L', hT', by
   show exF f V' k (o.drop q) L' R = _
   rw [List.drop_of_length_le (by omega)]; rfl⟩⟩
theorem exLStep0 : stepsOk PP uFd 100 9 95 (loopBody PP 9 8) 3 true uLb (uCk uNi uNh uNg uNf uSs) uFi uSt ⟨_, _, uRj, uRl, uWw⟩ := by
 intro x y hz
 obtain ⟨_, _, _, _, _, _, _, o, n, i, _⟩ := x
 obtain ⟨⟨d, r, c, t, a, x, _⟩, T, A, _, ⟨_, _⟩, ⟨f, _⟩, ⟨k, _, _⟩, ⟨_, _, _⟩, ⟨_, _, _⟩, _⟩ := y
 refine (exLForm0 o n i d r c t a x T A f k _ _ _ _ _ _).mpr ?_
 obtain ⟨q, V, L, rfl, rfl, hq, hol, hos, hV, hk0, _, hT, hmq, hRq, hxq⟩ := hz
 rw [ifp_lt]
 simp only [natOf_nat]
 split
 ·rename_i hlt
  have hql : q < o.length := by simpa using hlt
  refine ⟨idx_ok hql, _, uGv hql, _, uGu hql, _, uGt hql, _, uGs hql, Or.inr ⟨(by trivial), trivial, fun cw dw hw => ?_, trivial⟩⟩
  obtain ⟨nw, fw, _⟩ := cw
  obtain ⟨⟨k2, _, _⟩, _⟩ := dw
  obtain ⟨hwv, hk2⟩ := hw
  obtain rfl : k = k2 := hk2.symm
  have hE : ∀ V' L', SlOk d r c t a T A V' → TopOk k ([] : List Near) L' → (nw, fw) = uAf k L' := fun V' L' _ hT' => hwv.trans hT'.uT9
  dsimp only
  have hfw : fw = false := by
   have h9 := congrArg Prod.snd hwv
   have h8 : (uBm k []).2 = false := by rw [uBm, if_neg (by simp; omega)]
   exact h9.trans h8
  rw [ifp_neg hfw]
  refine ⟨Nat.le_refl _, ?_⟩
  refine Or.inr ⟨o[q], rfl, f, Wk.refl _, x, ⟨WkL.refl _, (by trivial), (by trivial)⟩, T, rfl, A, rfl, (by trivial), ⟨hos _ (List.getElem_mem hql), by show x.length ≤ _; omega, V, hV⟩, fun cr dr hr => ?_, trivial⟩
  obtain ⟨w, e, _⟩ := cr
  obtain ⟨_, ⟨f2, _⟩, ⟨d2, r2, c2, t2, a2, x2, _⟩, T2, A2, _, _⟩ := dr
  obtain ⟨q1, q2, q3, q4, q5, q6, q7, q8, hx2, hre⟩ := hr
  obtain rfl : d = d2 := q1.symm
  obtain rfl : r = r2 := q2.symm
  obtain rfl : c = c2 := q3.symm
  obtain rfl : t = t2 := q4.symm
  obtain rfl : a = a2 := q5.symm
  obtain rfl : f = f2 := q6.symm
  obtain rfl : T = T2 := q7.symm
  obtain rfl : A = A2 := q8.symm
  have hx2' : x2.length ≤ x.length + 1 := hx2
  have hxl0 : x.length ≤ 999900 + q := hxq
  dsimp only
  refine ⟨Nat.le_refl _, ?_⟩
  rw [ifp_ne]
  split
  ·rename_i he0
   obtain rfl : e = 0 := he0
   refine ⟨Nat.le_refl _, w.1, rfl, w.2.1, rfl, Or.inr ⟨w, rfl, (by trivial), by show 0 ≤ k; omega, fun ca da ha => ?_, fun ca da ha => ?_, trivial⟩⟩
   ·exfalso
    obtain ⟨b, e3, _⟩ := ca
    obtain ⟨⟨k3, _, _⟩, _⟩ := da
    obtain ⟨_, _, _, h9⟩ := ha
    have h9' : k = 0 := h9
    omega
   obtain ⟨b, e3, _⟩ := ca
   obtain ⟨⟨k3, h3, _⟩, m3, _⟩ := da
   obtain ⟨hb0, _, hk3, _, hh3, hm3⟩ := ha
   obtain rfl : k = k3 := hk3.symm
   obtain rfl : m3 = [w] := hm3
   obtain rfl : h3 = (1, 1) := hh3
   have hadd : uCl k ([] : List Near) w b [w] := by rw [uCl, if_pos (by simp; omega)]; exact ⟨hb0, List.Perm.refl _, fun j hj h0 => by simp at hj; omega⟩
   obtain ⟨hb, hT3⟩ := hT.add (by omega) hadd
   generalize hm3g : [w] = m3 at *
   have hm3l : m3.length = 1 := by rw [← hm3g]; rfl
   refine ⟨trivial, Or.inl ⟨o, Wk.refl _, x2, ⟨WkL.refl _, (by trivial), (by trivial)⟩, T, rfl, A, rfl, f, Wk.refl _, m3, rfl, [(o[q].1, (-1 : Int), ())], ⟨wkl_one (E := En) (WkL.refl _), (by trivial), (by trivial)⟩, (by trivial), ?_⟩⟩
   rw [wsucc (by omega)]
   have hstep : ∀ V' L', SlOk d r c t a T A V' → TopOk k ([] : List Near) L' → exF f V' k (o.drop q) L' ([] : List Near) = exF f V' k (o.drop (q + 1)) (uAn k L' w) (([] : List Near) ++ [(o[q].1, (-1 : Int), ())]) := fun V' L' hV' hT' => by
    rw [drop_get hql, exF, ← hE V' L' hV' hT', ← hre V' hV', if_neg (show ¬ (fw = true ∧ nw.1 < lowV o[q]) by rw [hfw]; rintro ⟨h9, _⟩; cases h9), if_neg (by simp)]
    simp only [hfw, Bool.false_eq_true, if_false]
   have hl3 : m3.length ≤ q + 1 := by
    unfold uCl at hadd
    split at hadd
    ·have := hadd.2.1.length_eq; simp at this; omega
    ·split at hadd
     ·rw [hadd.2]; omega
     ·have := hadd.2.1.length_eq; simp at this; omega
   refine ⟨⟨q + 1, V, uAn k L w, rfl, rfl, hql, hol, hos, hV, hk0, by show (1, 1) = (m3.length, m3.length); rw [hm3l], hT3, hl3, by show 1 ≤ q + 1; omega, by show x2.length ≤ 999900 + (q + 1); omega⟩, by show o.length - (q + 1) < o.length - q; omega, fun cc dd hh => ?_, fun cc dd hh => ?_, fun cc dd hh => ?_, fun cc dd hh => ?_, fun cc dd hh => ?_, trivial⟩
   ·obtain ⟨⟨d9, r9, c9, t9, a9, x9, _⟩, T9, A9, _, ⟨k9, h9, _⟩, m9, ⟨_, R9, _⟩, _⟩ := dd
    obtain ⟨g1, g2, g3, g4, g5, g6, g7, gx, g8, g9, g10, gE⟩ := hh
    have gx' : x9.length + (q + 1) ≤ x2.length + o.length := gx
    exact ⟨g1, g2, g3, g4, g5, g6, g7, by show x9.length + q ≤ x.length + o.length; omega, g8, g9, g10, fun V' L' hV' hT' => by
     obtain ⟨L2, y1, y2⟩ := gE V' (uAn k L' w) hV' (hT'.add (by omega) hadd).2
     exact ⟨L2, y1, (hstep V' L' hV' hT').trans y2⟩⟩
   ·obtain ⟨⟨d9, r9, c9, t9, a9, x9, _⟩, T9, A9, _⟩ := dd
    obtain ⟨g1, g2, g3, g4, g5, g6, g7, gx, gE⟩ := hh
    have gx' : x9.length + (q + 1) ≤ x2.length + o.length := gx
    exact ⟨g1, g2, g3, g4, g5, g6, g7, by show x9.length + q ≤ x.length + o.length; omega, fun V' L' hV' hT' => (hstep V' L' hV' hT').trans (gE V' (uAn k L' w) hV' (hT'.add (by omega) hadd).2)⟩
   ·obtain ⟨⟨d9, r9, c9, t9, a9, _⟩, T9, A9, _⟩ := dd
    obtain ⟨g1, g2, g3, g4, g5, g6, g7, gE⟩ := hh
    exact ⟨g1, g2, g3, g4, g5, g6, g7, fun V' L' hV' hT' => (hstep V' L' hV' hT').trans (gE V' (uAn k L' w) hV' (hT'.add (by omega) hadd).2)⟩
   ·obtain ⟨_, e9, _⟩ := cc
    obtain ⟨⟨d9, r9, c9, t9, a9, x9, _⟩, T9, A9, _⟩ := dd
    obtain ⟨g1, g2, g3, g4, g5, g6, g7, gx, ge, gE⟩ := hh
    have gx' : x9.length + (q + 1) ≤ x2.length + o.length := gx
    exact ⟨g1, g2, g3, g4, g5, g6, g7, by show x9.length + q ≤ x.length + o.length; omega, ge, fun V' L' hV' hT' => (hstep V' L' hV' hT').trans (gE V' (uAn k L' w) hV' (hT'.add (by omega) hadd).2)⟩
   ·obtain ⟨_, e9, _⟩ := cc
    obtain ⟨⟨d9, r9, c9, t9, a9, _⟩, T9, A9, _⟩ := dd
    obtain ⟨g1, g2, g3, g4, g5, g6, g7, ge, gE⟩ := hh
    exact ⟨g1, g2, g3, g4, g5, g6, g7, ge, fun V' L' hV' hT' => (hstep V' L' hV' hT').trans (gE V' (uAn k L' w) hV' (hT'.add (by omega) hadd).2)⟩
  ·rename_i he0
   exact Or.inl ⟨ trivial, x2, ⟨WkL.refl _, (by trivial), (by trivial)⟩, T, rfl, A, rfl, (by trivial), rfl, rfl, rfl, rfl, rfl, rfl, rfl, by show x2.length + q ≤ x.length + o.length; omega, he0, fun V' L' hV' hT' => by
    show exF f V' k (o.drop q) L' ([] : List Near) = _
    rw [drop_get hql, exF, ← hE V' L' hV' hT', ← hre V' hV', if_neg (show ¬ (fw = true ∧ nw.1 < lowV o[q]) by rw [hfw]; rintro ⟨h9, _⟩; cases h9), if_pos he0]⟩
 ·rename_i hlt
  have hql : ¬ q < o.length := by simpa using hlt
  exact Or.inr (Or.inl ⟨trivial, x, ⟨WkL.refl _, (by trivial), (by trivial)⟩, T, rfl, A, rfl, (by trivial), rfl, rfl, rfl, rfl, rfl, rfl, rfl, by show x.length + q ≤ _; omega, fun V' L' hV' hT' => by
   obtain rfl : L' = [] := List.length_eq_zero_iff.1 hT'.len.symm
   show exF f V' k (o.drop q) [] [] = _
   rw [List.drop_of_length_le (by omega)]; rfl⟩)
theorem exLStep1 : stepsOk PP uFd 100 9 95 (loopBody PP 9 8) 3 true uLb (uCk uNi uNh uNg uNf uSs) uFi uSt ⟨_, _, uRi, uRk, uWv⟩ := by
 intro x y hz
 obtain ⟨_, _, _, _, _, _, _, o, n, i, _⟩ := x
 obtain ⟨⟨d, r, c, t, a, _, _⟩, T, A, ⟨_, _⟩, ⟨f, _⟩, ⟨k, _, _⟩, ⟨_, _, _⟩, ⟨_, _, _⟩, _⟩ := y
 refine (exLForm1 o n i d r c t a T A f k _ _ _ _ _ _).mpr ?_
 obtain ⟨q, V, L, rfl, rfl, hq, hol, hos, hV, hk0, _, hT, hmq, hRq, hxq⟩ := hz
 rw [ifp_lt]
 simp only [natOf_nat]
 split
 ·rename_i hlt
  have hql : q < o.length := by simpa using hlt
  refine ⟨idx_ok hql, _, uGv hql, _, uGu hql, _, uGt hql, _, uGs hql, Or.inr ⟨(by trivial), trivial, fun cw dw hw => ?_, trivial⟩⟩
  obtain ⟨nw, fw, _⟩ := cw
  obtain ⟨⟨k2, _, _⟩, _⟩ := dw
  obtain ⟨hwv, hk2⟩ := hw
  obtain rfl : k = k2 := hk2.symm
  have hE : ∀ V' L', SlOk d r c t a T A V' → TopOk k ([] : List Near) L' → (nw, fw) = uAf k L' := fun V' L' _ hT' => hwv.trans hT'.uT9
  dsimp only
  have hfw : fw = false := by
   have h9 := congrArg Prod.snd hwv
   have h8 : (uBm k []).2 = false := by rw [uBm, if_neg (by simp; omega)]
   exact h9.trans h8
  rw [ifp_neg hfw]
  refine ⟨Nat.le_refl _, ?_⟩
  refine Or.inl ⟨o[q], rfl, f, Wk.refl _, T, rfl, A, rfl, (by trivial), ⟨hos _ (List.getElem_mem hql), V, hV⟩, fun cr dr hr => ?_, fun cr dr hr => ?_, trivial⟩
  ·obtain ⟨w, e, _⟩ := cr
   obtain ⟨_, ⟨f2, _⟩, ⟨d2, r2, c2, t2, a2, _⟩, T2, A2, _⟩ := dr
   obtain ⟨q1, q2, q3, q4, q5, q6, q7, q8, he6, hre⟩ := hr
   obtain rfl : d = d2 := q1.symm
   obtain rfl : r = r2 := q2.symm
   obtain rfl : c = c2 := q3.symm
   obtain rfl : t = t2 := q4.symm
   obtain rfl : a = a2 := q5.symm
   obtain rfl : f = f2 := q6.symm
   obtain rfl : T = T2 := q7.symm
   obtain rfl : A = A2 := q8.symm
   have he0 : e ≠ 0 := by rw [he6]; decide
   dsimp only
   refine ⟨Nat.le_refl _, ?_⟩
   rw [ifp_ne, if_neg he0]
   exact Or.inr ⟨ trivial, T, rfl, A, rfl, (by trivial), rfl, rfl, rfl, rfl, rfl, rfl, rfl, he0, fun V' L' hV' hT' => by
    show exF f V' k (o.drop q) L' ([] : List Near) = _
    rw [drop_get hql, exF, ← hE V' L' hV' hT', ← hre V' hV', if_neg (show ¬ (fw = true ∧ nw.1 < lowV o[q]) by rw [hfw]; rintro ⟨h9, _⟩; cases h9), if_pos he0]⟩
  ·skip
   obtain ⟨w, e, _⟩ := cr
   obtain ⟨_, ⟨f2, _⟩, ⟨d2, r2, c2, t2, a2, x2, _⟩, T2, A2, _, _⟩ := dr
   obtain ⟨q1, q2, q3, q4, q5, q6, q7, q8, hx2, hre⟩ := hr
   obtain rfl : d = d2 := q1.symm
   obtain rfl : r = r2 := q2.symm
   obtain rfl : c = c2 := q3.symm
   obtain rfl : t = t2 := q4.symm
   obtain rfl : a = a2 := q5.symm
   obtain rfl : f = f2 := q6.symm
   obtain rfl : T = T2 := q7.symm
   obtain rfl : A = A2 := q8.symm
   have hx2' : x2.length ≤ ([] : List Int).length + 1 := hx2
   have hxl0 : ([] : List Int).length ≤ 999900 + q := hxq
   dsimp only
   refine ⟨Nat.le_refl _, ?_⟩
   rw [ifp_ne]
   split
   ·rename_i he0
    obtain rfl : e = 0 := he0
    refine ⟨Nat.le_refl _, w.1, rfl, w.2.1, rfl, Or.inr ⟨w, rfl, (by trivial), by show 0 ≤ k; omega, fun ca da ha => ?_, fun ca da ha => ?_, trivial⟩⟩
    ·exfalso
     obtain ⟨b, e3, _⟩ := ca
     obtain ⟨⟨k3, _, _⟩, _⟩ := da
     obtain ⟨_, _, _, h9⟩ := ha
     have h9' : k = 0 := h9
     omega
    obtain ⟨b, e3, _⟩ := ca
    obtain ⟨⟨k3, h3, _⟩, m3, _⟩ := da
    obtain ⟨hb0, _, hk3, _, hh3, hm3⟩ := ha
    obtain rfl : k = k3 := hk3.symm
    obtain rfl : m3 = [w] := hm3
    obtain rfl : h3 = (1, 1) := hh3
    have hadd : uCl k ([] : List Near) w b [w] := by rw [uCl, if_pos (by simp; omega)]; exact ⟨hb0, List.Perm.refl _, fun j hj h0 => by simp at hj; omega⟩
    obtain ⟨hb, hT3⟩ := hT.add (by omega) hadd
    generalize hm3g : [w] = m3 at *
    have hm3l : m3.length = 1 := by rw [← hm3g]; rfl
    refine ⟨trivial, Or.inl ⟨o, Wk.refl _, x2, ⟨WkL.refl _, (by trivial), (by trivial)⟩, T, rfl, A, rfl, f, Wk.refl _, m3, rfl, [(o[q].1, (-1 : Int), ())], ⟨wkl_one (E := En) (WkL.refl _), (by trivial), (by trivial)⟩, (by trivial), ?_⟩⟩
    rw [wsucc (by omega)]
    have hstep : ∀ V' L', SlOk d r c t a T A V' → TopOk k ([] : List Near) L' → exF f V' k (o.drop q) L' ([] : List Near) = exF f V' k (o.drop (q + 1)) (uAn k L' w) (([] : List Near) ++ [(o[q].1, (-1 : Int), ())]) := fun V' L' hV' hT' => by
     rw [drop_get hql, exF, ← hE V' L' hV' hT', ← hre V' hV', if_neg (show ¬ (fw = true ∧ nw.1 < lowV o[q]) by rw [hfw]; rintro ⟨h9, _⟩; cases h9), if_neg (by simp)]
     simp only [hfw, Bool.false_eq_true, if_false]
    have hl3 : m3.length ≤ q + 1 := by
     unfold uCl at hadd
     split at hadd
     ·have := hadd.2.1.length_eq; simp at this; omega
     ·split at hadd
      ·rw [hadd.2]; omega
      ·have := hadd.2.1.length_eq; simp at this; omega
    refine ⟨⟨q + 1, V, uAn k L w, rfl, rfl, hql, hol, hos, hV, hk0, by show (1, 1) = (m3.length, m3.length); rw [hm3l], hT3, hl3, by show 1 ≤ q + 1; omega, by show x2.length ≤ 999900 + (q + 1); omega⟩, by show o.length - (q + 1) < o.length - q; omega, fun cc dd hh => ?_, fun cc dd hh => ?_, fun cc dd hh => ?_, fun cc dd hh => ?_, fun cc dd hh => ?_, trivial⟩
    ·obtain ⟨⟨d9, r9, c9, t9, a9, x9, _⟩, T9, A9, _, ⟨k9, h9, _⟩, m9, ⟨_, R9, _⟩, _⟩ := dd
     obtain ⟨g1, g2, g3, g4, g5, g6, g7, gx, g8, g9, g10, gE⟩ := hh
     have gx' : x9.length + (q + 1) ≤ x2.length + o.length := gx
     exact ⟨g1, g2, g3, g4, g5, g6, g7, by show x9.length + q ≤ ([] : List Int).length + o.length; omega, g8, g9, g10, fun V' L' hV' hT' => by
      obtain ⟨L2, y1, y2⟩ := gE V' (uAn k L' w) hV' (hT'.add (by omega) hadd).2
      exact ⟨L2, y1, (hstep V' L' hV' hT').trans y2⟩⟩
    ·obtain ⟨⟨d9, r9, c9, t9, a9, x9, _⟩, T9, A9, _⟩ := dd
     obtain ⟨g1, g2, g3, g4, g5, g6, g7, gx, gE⟩ := hh
     have gx' : x9.length + (q + 1) ≤ x2.length + o.length := gx
     exact ⟨g1, g2, g3, g4, g5, g6, g7, by show x9.length + q ≤ ([] : List Int).length + o.length; omega, fun V' L' hV' hT' => (hstep V' L' hV' hT').trans (gE V' (uAn k L' w) hV' (hT'.add (by omega) hadd).2)⟩
    ·obtain ⟨⟨d9, r9, c9, t9, a9, _⟩, T9, A9, _⟩ := dd
     obtain ⟨g1, g2, g3, g4, g5, g6, g7, gE⟩ := hh
     exact ⟨g1, g2, g3, g4, g5, g6, g7, fun V' L' hV' hT' => (hstep V' L' hV' hT').trans (gE V' (uAn k L' w) hV' (hT'.add (by omega) hadd).2)⟩
    ·obtain ⟨_, e9, _⟩ := cc
     obtain ⟨⟨d9, r9, c9, t9, a9, x9, _⟩, T9, A9, _⟩ := dd
     obtain ⟨g1, g2, g3, g4, g5, g6, g7, gx, ge, gE⟩ := hh
     have gx' : x9.length + (q + 1) ≤ x2.length + o.length := gx
     exact ⟨g1, g2, g3, g4, g5, g6, g7, by show x9.length + q ≤ ([] : List Int).length + o.length; omega, ge, fun V' L' hV' hT' => (hstep V' L' hV' hT').trans (gE V' (uAn k L' w) hV' (hT'.add (by omega) hadd).2)⟩
    ·obtain ⟨_, e9, _⟩ := cc
     obtain ⟨⟨d9, r9, c9, t9, a9, _⟩, T9, A9, _⟩ := dd
     obtain ⟨g1, g2, g3, g4, g5, g6, g7, ge, gE⟩ := hh
     exact ⟨g1, g2, g3, g4, g5, g6, g7, ge, fun V' L' hV' hT' => (hstep V' L' hV' hT').trans (gE V' (uAn k L' w) hV' (hT'.add (by omega) hadd).2)⟩
   ·rename_i he0
    exact Or.inl ⟨ trivial, x2, ⟨WkL.refl _, (by trivial), (by trivial)⟩, T, rfl, A, rfl, (by trivial), rfl, rfl, rfl, rfl, rfl, rfl, rfl, by show x2.length + q ≤ ([] : List Int).length + o.length; omega, he0, fun V' L' hV' hT' => by
     show exF f V' k (o.drop q) L' ([] : List Near) = _
     rw [drop_get hql, exF, ← hE V' L' hV' hT', ← hre V' hV', if_neg (show ¬ (fw = true ∧ nw.1 < lowV o[q]) by rw [hfw]; rintro ⟨h9, _⟩; cases h9), if_pos he0]⟩
 ·rename_i hlt
  have hql : ¬ q < o.length := by simpa using hlt
  exact Or.inr (Or.inr ⟨trivial, T, rfl, A, rfl, (by trivial), rfl, rfl, rfl, rfl, rfl, rfl, rfl, fun V' L' hV' hT' => by
   obtain rfl : L' = [] := List.length_eq_zero_iff.1 hT'.len.symm
   show exF f V' k (o.drop q) [] [] = _
   rw [List.drop_of_length_le (by omega)]; rfl⟩)
theorem uX0 : LoopOk PP 9 95 (.loop (loopBody PP 9 8)) (exLC) := loop_ok uSt  mixed (KLX_ok (cc_cons worstCc (cc_cons addCc (cc_cons uXu (cc_cons rdCc (cc_nil)))))) rfl (steps_cons exLStep (steps_cons exLStep0 (steps_cons exLStep1 (steps_nil))))
end Go.Proofs.YteehkdejkemnmaaDoor
namespace Go.Proofs.YteehkdejkemnmaaDoor
open Go.Det Go.RowKit
set_option maxRecDepth 100000
noncomputable def chkE (q : List Int) (l : List Cd) (k : Int) : Int := if vchk q q.length ≠ 0 then vchk q q.length else if k < 0 ∨ 16777216 < k ∨ l.all mayC = false then 2 else 0
noncomputable def exV (q : List Int) (l : List Cd) (V : List (List Int)) (k : Int) : (List Near × List Near) × Int :=
 if chkE q l k ≠ 0 ∨ k = 0 then (([], []), chkE q l k) else exF (uAa q) V k (ordC l) [] []
theorem uPz (l : List Cd) : (ordC l).length ≤ l.length := by
 rw [ordC]; split
 ·exact Nat.le_of_eq (Stab.sort_len l)
 ·exact Nat.zero_le _
theorem uMq {l : List Cd} {u : Cd} (h : u ∈ ordC l) : u ∈ l := by
 rw [ordC] at h; split at h
 ·exact (Stab.sort_perm (lt := ltC) l).mem_iff.1 h
 ·simp at h
theorem TopOk.none {k : Int} (h : 0 ≤ k) : TopOk k [] [] := ⟨List.Perm.refl _, List.Pairwise.nil, fun j hj h0 => by simp at hj, h⟩
theorem chk_zero {q : List Int} {l : List Cd} {k : Int} (h : chkE q l k = 0) : vchk q q.length = 0 ∧ 0 ≤ k ∧ k ≤ 16777216 ∧ l.all mayC = true := by
 rw [chkE] at h
 split at h
 ·rename_i h1; exact absurd h h1
 ·rename_i h1
  split at h
  ·cases h
  ·rename_i h2
   exact ⟨by simpa using h1, by omega, by omega, by
    cases h3 : l.all mayC with
    | true => rfl
    | false => exact absurd (Or.inr (Or.inr h3)) h2⟩
abbrev uIv := ((List Int) × Int × Unit) × (Unit)
noncomputable def uW4 : Tel ((List Int) × Int × Unit) := .cons 0 (.lst Ei16) (.ji 1 (.nil))
noncomputable def uR1 : BTel (Unit) := .nil
noncomputable def uLf (R0 : uIv → (Unit × Unit) → (Unit) → Prop) (R1 : uIv → (Unit × Unit) → (Unit) → Prop) : List (Res uIv) := [⟨Unit × Unit, Unit, .cons 0 (.num .i64 0) (.nil), .nil, R0⟩, ⟨Unit × Unit, Unit, .cons 0 (.num .i64 2) (.nil), .nil, R1⟩]
theorem chk2Fn (u : List Int) (d : Int) (R0 R1 : uIv → (Unit × Unit) → (Unit) → Prop) : (callW PP (runW PP (KL [] []) 200) 27 (uW4.cells id (u, d, ())) (stL false (uR1.obs id ())) (fun v st => resAny 0 ((u, d, ()), ()) v st (uLf R0 R1))) = ( ifp (!leInt 1 d) (False ∨ true = true ∧ R1 ((u, d, ()), ()) ((), ()) ()) (ifp (!leInt d 1024) (False ∨ true = true ∧ R1 ((u, d, ()), ()) ((), ()) ()) (ifp (!eqInt (Int.ofNat u.length) d) (False ∨ true = true ∧ R1 ((u, d, ()), ()) ((), ()) ()) (true = true ∧ R0 ((u, d, ()), ()) ((), ()) () ∨ False)))) := by kernel_rfl
def uEx : uIv → Prop := fun ((u, d, ()), ()) => True
def uIx : uIv → (Unit × Unit) → (Unit) → Prop := fun ((u, d, ()), ()) _ _ => vchk u d = 0
def uIw : uIv → (Unit × Unit) → (Unit) → Prop := fun ((u, d, ()), ()) _ _ => vchk u d = 2
noncomputable def uSv : CallC := callC 0 uW4 uR1 uEx (uLf uIx uIw)
theorem chk2Step (z : uIv) (hp : uEx z) : callW PP (runW PP (KL [] []) 200) 27 (uW4.cells id z.1) (stL false (uR1.obs id z.2)) (fun v st => resAny 0 z v st (uLf uIx uIw)) := by
 obtain ⟨⟨u, d, _⟩, _⟩ := z
 refine (chk2Fn u d _ _).mpr ?_
 rw [ifp_lt, ifp_lt, ifp_ne]
 split
 ·rename_i h; exact Or.inr ⟨rfl, if_pos (Or.inl h)⟩
 ·rename_i h
  split
  ·rename_i h2; exact Or.inr ⟨rfl, if_pos (Or.inr (Or.inl h2))⟩
  ·rename_i h2
   split
   ·rename_i h3; exact Or.inl ⟨rfl, if_neg (by have h3' : (u.length : Int) = d := h3; omega)⟩
   ·rename_i h3; exact Or.inr ⟨rfl, if_pos (Or.inr (Or.inr h3))⟩
theorem uR0 : CcOk PP 27 uSv := call_ok mixed (KL_ok (cc_nil)) rfl chk2Step
end Go.Proofs.YteehkdejkemnmaaDoor
