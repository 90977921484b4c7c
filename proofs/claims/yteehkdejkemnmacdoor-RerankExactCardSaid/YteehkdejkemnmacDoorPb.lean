/- Part of the proof of RerankExact. -/
import Derived.Test.YteehkdejkemnmacDoorRows
import Derived.Test.YteehkdejkemnmacDoorDd
import Derived.ProofKit
import Derived.Test.YteehkdejkemnmacDoorPa
import Derived.Test.YteehkdejkemnmacDoorDe
set_option linter.unusedVariables false
set_option linter.unusedSimpArgs false
namespace Go.Proofs.YteehkdejkemnmacDoor
open Go.Det Go.RowKit
set_option maxRecDepth 100000
abbrev Ei32 : Enc Int := Enc.int .i32
def uDe (x : Int) : Bool := decide (x < -131072) || decide (131072 < x)
def cw (v : List Int) : Int := if v.length < 1 ∨ 1024 < v.length then 2 else if v.any uDe then 11 else 0
def pairV (a b : List Int) : Int := if cw a ≠ 0 then cw a else if cw b ≠ 0 then cw b else if a.length ≠ b.length then 2 else 0
def sqs : List Int → List Int → Int
 | x :: a, y :: b => (x - y) * (x - y) + sqs a b
 | _, _ => 0
def uBn (a b : List Int) : Int := if pairV a b = 0 then sqs a b else 0
def lightV (l : List (List Int)) (m n : Int) : Bool := decide ((l.length : Int) ≤ m) && l.all fun v => decide ((v.length : Int) ≤ n)
abbrev idxwZ := ((List Int) × Unit × Int × Int × Unit) × (Unit)
noncomputable def idxwSl : Tel ((List Int) × Unit × Int × Int × Unit) := .cons 0 (.lst Ei32) (.cons 1 (.fnp 80 []) (.ji 7 (.ji 8 (.nil))))
noncomputable def idxwBl : BTel (Unit) := .nil
noncomputable def idxwFs : List (LForm idxwZ) := [⟨_, _, idxwSl, idxwBl, fun x y => (x, y)⟩]
abbrev qVect2 := Int × Unit
noncomputable def idxwAlts (R0 : idxwZ → (Unit) → (Unit) → Prop) (R1 : idxwZ → qVect2 → (Unit) → Prop) : List (Alt idxwZ) := [⟨.exit 0, Unit, Unit, .nil, .nil, R0⟩, ⟨.ret, Int × Unit, Unit, .ji 4 (.nil), .nil, R1⟩]
noncomputable abbrev qVeck0 := KL [] []
theorem idxwForm (l : List Int) (n i : Int) (N : idxwZ → Prop) (R0 : idxwZ → (Unit) → (Unit) → Prop) (R1 : idxwZ → qVect2 → (Unit) → Prop) : ((runW PP qVeck0 100).code none 87 19 (uAd PP 87 2) (mkT (idxwSl.av id (l, (), n, i, ()))) [] (stL false (idxwBl.obs id ())) (uCh 0 idxwFs (idxwAlts R0 R1) ((l, (), n, i, ()), ()) N)) = ( ifp (!uAf n i) (uAp i l.length ∧ ∃ x : Int, nth ((uAc i).mul 1) (l.flatMap Ei32.f) = some (AV.int .i32 x) ∧ ifp (!uAf (-131072) x) (True ∧ true = true ∧ R1 ((l, (), n, i, ()), ()) (i, ()) ()) (ifp (!uAf x 131072) (True ∧ true = true ∧ R1 ((l, (), n, i, ()), ()) (i, ()) ()) (True ∧ ∃ l_1, Wv Ei32 l l_1 ∧ true = true ∧ N ((l_1, (), n, uAa .i64 (i.add 1), ()), ())))) (True ∧ true = true ∧ R0 ((l, (), n, i, ()), ()) () ())) := by kernel_rfl
def idxwInv : idxwZ → Prop := fun ((l, (), n, i, ()), ()) => ∃ k : Nat, i = k ∧ n = l.length ∧ k ≤ l.length ∧ l.length < 9223372036854775807 ∧ (l.take k).any uDe = false
def idxwMu : idxwZ → Nat := fun ((l, (), n, i, ()), ()) => l.length - i.toNat
def idxwR0 : idxwZ → (Unit) → (Unit) → Prop := fun ((l, (), n, i, ()), ()) _ _ => l.any uDe = false
def idxwR1 : idxwZ → qVect2 → (Unit) → Prop := fun ((l, (), n, i, ()), ()) (r, _) _ => 0 ≤ r ∧ l.any uDe = true
noncomputable def idxwC : uB5 := uC9 0 idxwFs (idxwAlts idxwR0 idxwR1) idxwInv
theorem idxwStep : uA3 PP qVeck0 100 87 19 (uAd PP 87 2) 0 false idxwFs (idxwAlts idxwR0 idxwR1) idxwInv idxwMu ⟨_, _, idxwSl, idxwBl, fun x y => (x, y)⟩ := by
 intro x y hz
 obtain ⟨l, _, n, i, _⟩ := x
 obtain _ := y
 refine (idxwForm l n i _ _ _).mpr ?_
 obtain ⟨k, rfl, rfl, hk, hl, ht⟩ := hz
 rw [uAe]
 simp only [uAt]
 split
 ·rename_i h
  have hkl : k < l.length := by simpa using h
  repeat first | refine ⟨Nat.le_refl _, ?_⟩ | rw [uAj (uAg (by simp only [Nat.add_eq]; omega) (by decide))] | refine ⟨trivial, ?_⟩ | refine ⟨(rfl : true = true), ?_⟩ | refine ⟨uAk (by omega), ?_⟩ | refine ⟨uA8 (by omega), ?_⟩ | refine ⟨_, uBa (by omega), ?_⟩ | refine ⟨_, _, _, _, _, _, uA4 (by omega), ?_⟩ | refine ⟨_, _, _, _, _, _, nth_lst0 (by omega), ?_⟩ | refine ⟨_, Wk.refl _, ?_⟩ | rw [uAj rfl]
  rw [uAe]
  split
  ·rename_i h2
   repeat first | refine ⟨Nat.le_refl _, ?_⟩ | rw [uAj (uAg (by simp only [Nat.add_eq]; omega) (by decide))] | refine ⟨trivial, ?_⟩ | refine ⟨(rfl : true = true), ?_⟩ | refine ⟨uAk (by omega), ?_⟩ | refine ⟨uA8 (by omega), ?_⟩ | refine ⟨_, uBa (by omega), ?_⟩ | refine ⟨_, _, _, _, _, _, uA4 (by omega), ?_⟩ | refine ⟨_, _, _, _, _, _, nth_lst0 (by omega), ?_⟩ | refine ⟨_, Wk.refl _, ?_⟩ | rw [uAj rfl]
   exact ⟨by omega, any_of_get hkl (by simp [uDe, h2])⟩
  ·rename_i h2
   rw [uAe]
   split
   ·rename_i h3
    repeat first | refine ⟨Nat.le_refl _, ?_⟩ | rw [uAj (uAg (by simp only [Nat.add_eq]; omega) (by decide))] | refine ⟨trivial, ?_⟩ | refine ⟨(rfl : true = true), ?_⟩ | refine ⟨uAk (by omega), ?_⟩ | refine ⟨uA8 (by omega), ?_⟩ | refine ⟨_, uBa (by omega), ?_⟩ | refine ⟨_, _, _, _, _, _, uA4 (by omega), ?_⟩ | refine ⟨_, _, _, _, _, _, nth_lst0 (by omega), ?_⟩ | refine ⟨_, Wk.refl _, ?_⟩ | rw [uAj rfl]
    exact ⟨by omega, any_of_get hkl (by simp [uDe, h3])⟩
   ·rename_i h3
    repeat first | refine ⟨Nat.le_refl _, ?_⟩ | rw [uAj (uAg (by simp only [Nat.add_eq]; omega) (by decide))] | refine ⟨trivial, ?_⟩ | refine ⟨(rfl : true = true), ?_⟩ | refine ⟨uAk (by omega), ?_⟩ | refine ⟨uA8 (by omega), ?_⟩ | refine ⟨_, uBa (by omega), ?_⟩ | refine ⟨_, _, _, _, _, _, uA4 (by omega), ?_⟩ | refine ⟨_, _, _, _, _, _, nth_lst0 (by omega), ?_⟩ | refine ⟨_, Wk.refl _, ?_⟩ | rw [uAj rfl]
    rw [uCb (by omega)]
    refine ⟨⟨k + 1, rfl, rfl, hkl, hl, ?_⟩, ?_, fun _ _ h => h, fun _ _ h => h, trivial⟩
    ·rw [any_take_succ hkl, ht]; simp [uDe]; omega
    ·show l.length - (k + 1) < l.length - k; omega
 ·rename_i h
  repeat first | refine ⟨Nat.le_refl _, ?_⟩ | rw [uAj (uAg (by simp only [Nat.add_eq]; omega) (by decide))] | refine ⟨trivial, ?_⟩ | refine ⟨(rfl : true = true), ?_⟩ | refine ⟨uAk (by omega), ?_⟩ | refine ⟨uA8 (by omega), ?_⟩ | refine ⟨_, uBa (by omega), ?_⟩ | refine ⟨_, _, _, _, _, _, uA4 (by omega), ?_⟩ | refine ⟨_, _, _, _, _, _, nth_lst0 (by omega), ?_⟩ | refine ⟨_, Wk.refl _, ?_⟩ | rw [uAj rfl]
  rw [take_all (by simpa using h)] at ht; exact ht
theorem idxwOk : uAs PP 87 19 (.loop (uAd PP 87 2)) (idxwC) := uBf idxwMu  mixed (uC8 (uAq)) rfl (uAo idxwStep (uAx))
noncomputable def cwT : Tel ((List Int) × Unit) := .cons 0 (.lst Ei32) (.nil)
theorem cwFn (v : List Int) (Q : AV → Prop) : (uA2 PP (runW PP (KL [] [(87, [(2, idxwC)])]) 200) 66 (cwT.cells id (v, ())) (stE false) (fun x st => frzW st x Q)) = ( ifp (!uAf 1 (Int.ofNat v.length)) (Q (I64 2)) (ifp (!uAf (Int.ofNat v.length) 1024) (Q (I64 2)) (uAs PP 87 19 (uAd PP 87 2).loop idxwC ∧ True ∧ True ∧ ∃ l, Wv Ei32 v l ∧ true = true ∧ idxwInv ((l, (), Int.ofNat v.length, 0, ()), ()) ∧ (∀ (c d : Unit), idxwR0 ((l, (), Int.ofNat v.length, 0, ()), ()) c d → Q (I64 0)) ∧ (∀ c d, idxwR1 ((l, (), Int.ofNat v.length, 0, ()), ()) c d → ifp (uAf 0 c.1) (Q (I64 11)) (Q (I64 0))) ∧ True))) := by kernel_rfl
def cwPre : (List Int) × Unit → Prop := fun (v, ()) => True
noncomputable def cwRes : (List Int) × Unit → AV := fun (v, ()) => .int .i64 (cw v)
noncomputable def cwK : uA6 := valC cwT cwPre cwRes
theorem cwVal (v : List Int) (hp : cwPre (v, ())) : Val PP 66 (cwT.cells id (v, ())) (cwRes (v, ())) := by
 refine Val.ofF mixed (uC8 (uAq)) (uDa rfl _) (cwFn v) ?_
 rw [uAe, uAe]
 split
 ·rename_i h
  exact uAr (by rw [cw, if_pos (by simp at h; omega)])
 ·rename_i h
  split
  ·rename_i h2
   exact uAr (by rw [cw, if_pos (by simp at h2; omega)])
  ·rename_i h2
   simp at h h2
   have hc : ¬ (v.length < 1 ∨ 1024 < v.length) := by omega
   refine ⟨idxwOk, ?_⟩
   repeat first | refine ⟨Nat.le_refl _, ?_⟩ | rw [uAj (uAg (by simp only [Nat.add_eq]; omega) (by decide))] | refine ⟨trivial, ?_⟩ | refine ⟨(rfl : true = true), ?_⟩ | refine ⟨uAk (by omega), ?_⟩ | refine ⟨uA8 (by omega), ?_⟩ | refine ⟨_, uBa (by omega), ?_⟩ | refine ⟨_, _, _, _, _, _, uA4 (by omega), ?_⟩ | refine ⟨_, _, _, _, _, _, nth_lst0 (by omega), ?_⟩ | refine ⟨_, Wk.refl _, ?_⟩ | rw [uAj rfl]
   refine ⟨⟨0, rfl, rfl, by omega, by omega, by simp⟩, fun _ _ hr => ?_, fun c _ hr => ?_, trivial⟩
   ·have hr' : v.any uDe = false := hr
    exact uAr (by rw [cw, if_neg hc, hr', if_neg (by simp)])
   ·obtain ⟨r, _⟩ := c
    obtain ⟨h0, hr'⟩ := hr
    rw [uEg, if_pos h0]
    exact uAr (by rw [cw, if_neg hc, if_pos hr'])
theorem cwCc : CcOk PP 66 cwK := uC2 rfl (fun ⟨v, _⟩ h => cwVal v h)
abbrev qVect3 := (List Int) × Int × Unit
abbrev rcwZ := qVect3 × (Unit)
noncomputable def rcwSl : Tel qVect3 := .cons 0 (.lst Ei32) (.ji 3 (.nil))
noncomputable def rcwBl : BTel (Unit) := .nil
noncomputable def rcwFs : List (LForm rcwZ) := [⟨_, _, rcwSl, rcwBl, fun x y => (x, y)⟩]
noncomputable def rcwAlts (R0 : rcwZ → (Unit) → (Unit) → Prop) (R1 : rcwZ → qVect2 → (Unit) → Prop) : List (Alt rcwZ) := [⟨.exit 0, Unit, Unit, .nil, .nil, R0⟩, ⟨.ret, Int × Unit, Unit, .ji 2 (.nil), .nil, R1⟩]
theorem rcwForm (l : List Int) (i : Int) (N : rcwZ → Prop) (R0 : rcwZ → (Unit) → (Unit) → Prop) (R1 : rcwZ → qVect2 → (Unit) → Prop) : ((runW PP qVeck0 100).code none 54 30 (uAd PP 54 4) (mkT (rcwSl.av id (l, i, ()))) [] (stL false (rcwBl.obs id ())) (uCh 0 rcwFs (rcwAlts R0 R1) ((l, i, ()), ()) N)) = ( ifp (!uAf (Int.ofNat l.length) i) (uAp i l.length ∧ ∃ x : Int, nth ((uAc i).mul 1) (l.flatMap Ei32.f) = some (AV.int .i32 x) ∧ ifp (!uAf (-131072) x) (True ∧ true = true ∧ R1 ((l, i, ()), ()) (11, ()) ()) (uAp i l.length ∧ ∃ x : Int, nth ((uAc i).mul 1) (l.flatMap Ei32.f) = some (AV.int .i32 x) ∧ ifp (!uAf x 131072) (True ∧ true = true ∧ R1 ((l, i, ()), ()) (11, ()) ()) (True ∧ ∃ l_1, Wv Ei32 l l_1 ∧ true = true ∧ N ((l_1, uAa .i64 (i.add 1), ()), ())))) (True ∧ true = true ∧ R0 ((l, i, ()), ()) () ())) := by kernel_rfl
def rcwInv : rcwZ → Prop := fun ((l, i, ()), ()) => ∃ k : Nat, i = k ∧ k ≤ l.length ∧ l.length < 9223372036854775807 ∧ (l.take k).any uDe = false
def rcwMu : rcwZ → Nat := fun ((l, i, ()), ()) => l.length - i.toNat
def rcwR0 : rcwZ → (Unit) → (Unit) → Prop := fun ((l, i, ()), ()) _ _ => l.any uDe = false
def rcwR1 : rcwZ → qVect2 → (Unit) → Prop := fun ((l, i, ()), ()) (r, _) _ => r = 11 ∧ l.any uDe = true
noncomputable def rcwC : uB5 := uC9 0 rcwFs (rcwAlts rcwR0 rcwR1) rcwInv
theorem rcwStep : uA3 PP qVeck0 100 54 30 (uAd PP 54 4) 0 false rcwFs (rcwAlts rcwR0 rcwR1) rcwInv rcwMu ⟨_, _, rcwSl, rcwBl, fun x y => (x, y)⟩ := by
 intro x y hz
 obtain ⟨l, i, _⟩ := x
 obtain _ := y
 refine (rcwForm l i _ _ _).mpr ?_
 obtain ⟨k, rfl, hk, hl, ht⟩ := hz
 rw [uAe]
 simp only [uAt]
 split
 ·rename_i h
  have hkl : k < l.length := by simpa using h
  repeat first | refine ⟨Nat.le_refl _, ?_⟩ | rw [uAj (uAg (by simp only [Nat.add_eq]; omega) (by decide))] | refine ⟨trivial, ?_⟩ | refine ⟨(rfl : true = true), ?_⟩ | refine ⟨uAk (by omega), ?_⟩ | refine ⟨uA8 (by omega), ?_⟩ | refine ⟨_, uBa (by omega), ?_⟩ | refine ⟨_, _, _, _, _, _, uA4 (by omega), ?_⟩ | refine ⟨_, _, _, _, _, _, nth_lst0 (by omega), ?_⟩ | refine ⟨_, Wk.refl _, ?_⟩ | rw [uAj rfl]
  rw [uAe]
  split
  ·rename_i h2
   repeat first | refine ⟨Nat.le_refl _, ?_⟩ | rw [uAj (uAg (by simp only [Nat.add_eq]; omega) (by decide))] | refine ⟨trivial, ?_⟩ | refine ⟨(rfl : true = true), ?_⟩ | refine ⟨uAk (by omega), ?_⟩ | refine ⟨uA8 (by omega), ?_⟩ | refine ⟨_, uBa (by omega), ?_⟩ | refine ⟨_, _, _, _, _, _, uA4 (by omega), ?_⟩ | refine ⟨_, _, _, _, _, _, nth_lst0 (by omega), ?_⟩ | refine ⟨_, Wk.refl _, ?_⟩ | rw [uAj rfl]
   exact ⟨rfl, any_of_get hkl (by simp [uDe, h2])⟩
  ·rename_i h2
   repeat first | refine ⟨Nat.le_refl _, ?_⟩ | rw [uAj (uAg (by simp only [Nat.add_eq]; omega) (by decide))] | refine ⟨trivial, ?_⟩ | refine ⟨(rfl : true = true), ?_⟩ | refine ⟨uAk (by omega), ?_⟩ | refine ⟨uA8 (by omega), ?_⟩ | refine ⟨_, uBa (by omega), ?_⟩ | refine ⟨_, _, _, _, _, _, uA4 (by omega), ?_⟩ | refine ⟨_, _, _, _, _, _, nth_lst0 (by omega), ?_⟩ | refine ⟨_, Wk.refl _, ?_⟩ | rw [uAj rfl]
   rw [uAe]
   split
   ·rename_i h3
    repeat first | refine ⟨Nat.le_refl _, ?_⟩ | rw [uAj (uAg (by simp only [Nat.add_eq]; omega) (by decide))] | refine ⟨trivial, ?_⟩ | refine ⟨(rfl : true = true), ?_⟩ | refine ⟨uAk (by omega), ?_⟩ | refine ⟨uA8 (by omega), ?_⟩ | refine ⟨_, uBa (by omega), ?_⟩ | refine ⟨_, _, _, _, _, _, uA4 (by omega), ?_⟩ | refine ⟨_, _, _, _, _, _, nth_lst0 (by omega), ?_⟩ | refine ⟨_, Wk.refl _, ?_⟩ | rw [uAj rfl]
    exact ⟨rfl, any_of_get hkl (by simp [uDe, h3])⟩
   ·rename_i h3
    repeat first | refine ⟨Nat.le_refl _, ?_⟩ | rw [uAj (uAg (by simp only [Nat.add_eq]; omega) (by decide))] | refine ⟨trivial, ?_⟩ | refine ⟨(rfl : true = true), ?_⟩ | refine ⟨uAk (by omega), ?_⟩ | refine ⟨uA8 (by omega), ?_⟩ | refine ⟨_, uBa (by omega), ?_⟩ | refine ⟨_, _, _, _, _, _, uA4 (by omega), ?_⟩ | refine ⟨_, _, _, _, _, _, nth_lst0 (by omega), ?_⟩ | refine ⟨_, Wk.refl _, ?_⟩ | rw [uAj rfl]
    rw [uCb (by omega)]
    refine ⟨⟨k + 1, rfl, hkl, hl, ?_⟩, ?_, fun _ _ h => h, fun _ _ h => h, trivial⟩
    ·rw [any_take_succ hkl, ht]; simp [uDe]; omega
    ·show l.length - (k + 1) < l.length - k; omega
 ·rename_i h
  repeat first | refine ⟨Nat.le_refl _, ?_⟩ | rw [uAj (uAg (by simp only [Nat.add_eq]; omega) (by decide))] | refine ⟨trivial, ?_⟩ | refine ⟨(rfl : true = true), ?_⟩ | refine ⟨uAk (by omega), ?_⟩ | refine ⟨uA8 (by omega), ?_⟩ | refine ⟨_, uBa (by omega), ?_⟩ | refine ⟨_, _, _, _, _, _, uA4 (by omega), ?_⟩ | refine ⟨_, _, _, _, _, _, nth_lst0 (by omega), ?_⟩ | refine ⟨_, Wk.refl _, ?_⟩ | rw [uAj rfl]
  rw [take_all (by simpa using h)] at ht; exact ht
theorem rcwOk : uAs PP 54 30 (.loop (uAd PP 54 4)) (rcwC) := uBf rcwMu  mixed (uC8 (uAq)) rfl (uAo rcwStep (uAx))
noncomputable def rcwT : Tel ((List Int) × Unit) := .cons 0 (.lst Ei32) (.nil)
theorem rcwFn (v : List Int) (Q : AV → Prop) : (uA2 PP (runW PP (KL [] [(54, [(4, rcwC)])]) 200) 54 (rcwT.cells id (v, ())) (stE false) (fun x st => frzW st x Q)) = ( ifp (!uAf 1 (Int.ofNat v.length)) (Q (I64 2)) (ifp (!uAf (Int.ofNat v.length) 1024) (Q (I64 2)) (uAs PP 54 30 (uAd PP 54 4).loop rcwC ∧ True ∧ True ∧ ∃ l, Wv Ei32 v l ∧ true = true ∧ rcwInv ((l, 0, ()), ()) ∧ (∀ (c d : Unit), rcwR0 ((l, 0, ()), ()) c d → Q (I64 0)) ∧ (∀ c d, rcwR1 ((l, 0, ()), ()) c d → Q (I64 c.1)) ∧ True))) := by kernel_rfl
def rcwPre : (List Int) × Unit → Prop := fun (v, ()) => True
noncomputable def rcwRes : (List Int) × Unit → AV := fun (v, ()) => .int .i64 (cw v)
noncomputable def rcwK : uA6 := valC rcwT rcwPre rcwRes
theorem rcwVal (v : List Int) (hp : rcwPre (v, ())) : Val PP 54 (rcwT.cells id (v, ())) (rcwRes (v, ())) := by
 refine Val.ofF mixed (uC8 (uAq)) (uDa rfl _) (rcwFn v) ?_
 rw [uAe, uAe]
 split
 ·rename_i h
  exact uAr (by rw [cw, if_pos (by simp at h; omega)])
 ·rename_i h
  split
  ·rename_i h2
   exact uAr (by rw [cw, if_pos (by simp at h2; omega)])
  ·rename_i h2
   simp at h h2
   have hc : ¬ (v.length < 1 ∨ 1024 < v.length) := by omega
   refine ⟨rcwOk, ?_⟩
   repeat first | refine ⟨Nat.le_refl _, ?_⟩ | rw [uAj (uAg (by simp only [Nat.add_eq]; omega) (by decide))] | refine ⟨trivial, ?_⟩ | refine ⟨(rfl : true = true), ?_⟩ | refine ⟨uAk (by omega), ?_⟩ | refine ⟨uA8 (by omega), ?_⟩ | refine ⟨_, uBa (by omega), ?_⟩ | refine ⟨_, _, _, _, _, _, uA4 (by omega), ?_⟩ | refine ⟨_, _, _, _, _, _, nth_lst0 (by omega), ?_⟩ | refine ⟨_, Wk.refl _, ?_⟩ | rw [uAj rfl]
   refine ⟨⟨0, rfl, by omega, by omega, by simp⟩, fun _ _ hr => ?_, fun c _ hr => ?_, trivial⟩
   ·have hr' : v.any uDe = false := hr
    exact uAr (by rw [cw, if_neg hc, hr', if_neg (by simp)])
   ·obtain ⟨r, _⟩ := c
    obtain ⟨rfl, hr'⟩ := hr
    exact uAr (by rw [cw, if_neg hc, if_pos hr'])
theorem rcwCc : CcOk PP 54 rcwK := uC2 rfl (fun ⟨v, _⟩ h => rcwVal v h)
abbrev qVect1 := (List Int) × (List Int) × Unit
noncomputable def pairT : Tel qVect1 := .cons 0 (.lst Ei32) (.cons 1 (.lst Ei32) (.nil))
theorem pairFn (a b : List Int) (Q : AV → Prop) : (uA2 PP (runW PP (KL [(66, cwK)] []) 200) 60 (pairT.cells id (a, b, ())) (stE false) (fun x st => frzW st x Q)) = ( uAp 0 2 ∧ ∃ l, Wv Ei32 a l ∧ cwPre (l, ()) ∧ ifp (!uA0 (cw l) 0) (Q (I64 (cw l))) (uAp (uAa .i64 (Int.add 0 1)) 2 ∧ ∃ l, Wv Ei32 b l ∧ cwPre (l, ()) ∧ ifp (!uA0 (cw l) 0) (Q (I64 (cw l))) (ifp (!uA0 (Int.ofNat a.length) (Int.ofNat b.length)) (Q (I64 2)) (Q (I64 0))))) := by kernel_rfl
def pairPre : (List Int) × (List Int) × Unit → Prop := fun (a, b, ()) => True
noncomputable def pairRes : (List Int) × (List Int) × Unit → AV := fun (a, b, ()) => .int .i64 (pairV a b)
noncomputable def pairK : uA6 := valC pairT pairPre pairRes
theorem pairVal (a : List Int) (b : List Int) (hp : pairPre (a, b, ())) : Val PP 60 (pairT.cells id (a, b, ())) (pairRes (a, b, ())) := by
 refine Val.ofF mixed (uC8 (uAi cwCc (uAq))) (uDa rfl _) (pairFn a b) ?_
 refine ⟨⟨by decide, by decide⟩, ?_⟩
 repeat first | refine ⟨Nat.le_refl _, ?_⟩ | rw [uAj (uAg (by simp only [Nat.add_eq]; omega) (by decide))] | refine ⟨trivial, ?_⟩ | refine ⟨(rfl : true = true), ?_⟩ | refine ⟨uAk (by omega), ?_⟩ | refine ⟨uA8 (by omega), ?_⟩ | refine ⟨_, uBa (by omega), ?_⟩ | refine ⟨_, _, _, _, _, _, uA4 (by omega), ?_⟩ | refine ⟨_, _, _, _, _, _, nth_lst0 (by omega), ?_⟩ | refine ⟨_, Wk.refl _, ?_⟩ | rw [uAj rfl]
 rw [uBu]
 split
 ·rename_i h
  refine ⟨⟨by decide, by decide⟩, ?_⟩
  repeat first | refine ⟨Nat.le_refl _, ?_⟩ | rw [uAj (uAg (by simp only [Nat.add_eq]; omega) (by decide))] | refine ⟨trivial, ?_⟩ | refine ⟨(rfl : true = true), ?_⟩ | refine ⟨uAk (by omega), ?_⟩ | refine ⟨uA8 (by omega), ?_⟩ | refine ⟨_, uBa (by omega), ?_⟩ | refine ⟨_, _, _, _, _, _, uA4 (by omega), ?_⟩ | refine ⟨_, _, _, _, _, _, nth_lst0 (by omega), ?_⟩ | refine ⟨_, Wk.refl _, ?_⟩ | rw [uAj rfl]
  rw [uBu, uBu]
  split
  ·rename_i h2
   split
   ·rename_i h3; exact uAr (by simp at h3; simp [pairV, h, h2]; omega)
   ·rename_i h3; exact uAr (by simp at h3; simp [pairV, h, h2]; omega)
  ·rename_i h2; exact uAr (by simp [pairV, h, h2])
 ·rename_i h; exact uAr (by simp [pairV, h])
theorem pairCc : CcOk PP 60 pairK := uC2 rfl (fun ⟨a, ⟨b, _⟩⟩ h => pairVal a b h)
noncomputable def rboth3T : Tel qVect1 := .cons 0 (.lst Ei32) (.cons 1 (.lst Ei32) (.nil))
theorem rboth3Fn (a b : List Int) (Q : AV → Prop) : (uA2 PP (runW PP (KL [(54, rcwK)] []) 200) 30 (rboth3T.cells id (a, b, ())) (stE false) (fun x st => frzW st x Q)) = ( ∃ l, Wv Ei32 a l ∧ rcwPre (l, ()) ∧ ifp (uA0 (cw l) 0) (∃ l, Wv Ei32 b l ∧ rcwPre (l, ()) ∧ ifp (uA0 (cw l) 0) (ifp (!uA0 (Int.ofNat a.length) (Int.ofNat b.length)) (Q (I64 2)) (Q (I64 (cw l)))) (Q (I64 (cw l)))) (ifp (uA0 (cw l) 0) (ifp (!uA0 (Int.ofNat a.length) (Int.ofNat b.length)) (Q (I64 2)) (Q (I64 (cw l)))) (Q (I64 (cw l))))) := by kernel_rfl
def rboth3Pre : (List Int) × (List Int) × Unit → Prop := fun (a, b, ()) => True
noncomputable def rboth3Res : (List Int) × (List Int) × Unit → AV := fun (a, b, ()) => .int .i64 (pairV a b)
noncomputable def rboth3K : uA6 := valC rboth3T rboth3Pre rboth3Res
theorem rboth3Val (a : List Int) (b : List Int) (hp : rboth3Pre (a, b, ())) : Val PP 30 (rboth3T.cells id (a, b, ())) (rboth3Res (a, b, ())) := by
 refine Val.ofF mixed (uC8 (uAi rcwCc (uAq))) (uDa rfl _) (rboth3Fn a b) ?_
 repeat first | refine ⟨Nat.le_refl _, ?_⟩ | rw [uAj (uAg (by simp only [Nat.add_eq]; omega) (by decide))] | refine ⟨trivial, ?_⟩ | refine ⟨(rfl : true = true), ?_⟩ | refine ⟨uAk (by omega), ?_⟩ | refine ⟨uA8 (by omega), ?_⟩ | refine ⟨_, uBa (by omega), ?_⟩ | refine ⟨_, _, _, _, _, _, uA4 (by omega), ?_⟩ | refine ⟨_, _, _, _, _, _, nth_lst0 (by omega), ?_⟩ | refine ⟨_, Wk.refl _, ?_⟩ | rw [uAj rfl]
 rw [uCz]
 split
 ·rename_i h
  repeat first | refine ⟨Nat.le_refl _, ?_⟩ | rw [uAj (uAg (by simp only [Nat.add_eq]; omega) (by decide))] | refine ⟨trivial, ?_⟩ | refine ⟨(rfl : true = true), ?_⟩ | refine ⟨uAk (by omega), ?_⟩ | refine ⟨uA8 (by omega), ?_⟩ | refine ⟨_, uBa (by omega), ?_⟩ | refine ⟨_, _, _, _, _, _, uA4 (by omega), ?_⟩ | refine ⟨_, _, _, _, _, _, nth_lst0 (by omega), ?_⟩ | refine ⟨_, Wk.refl _, ?_⟩ | rw [uAj rfl]
  rw [uCz, uBu]
  split
  ·rename_i h2
   split
   ·rename_i h3; exact uAr (by simp at h3; simp [pairV, h, h2]; omega)
   ·rename_i h3; exact uAr (by simp at h3; simp [pairV, h, h2]; omega)
  ·rename_i h2; exact uAr (by simp [pairV, h, h2])
 ·rename_i h
  rw [uCz, if_neg h]
  exact uAr (by simp [pairV, h])
theorem rboth3Cc : CcOk PP 30 rboth3K := uC2 rfl (fun ⟨a, ⟨b, _⟩⟩ h => rboth3Val a b h)
def wide (l : List Int) : Prop := ∀ x ∈ l, -131072 ≤ x ∧ x ≤ 131072
theorem wide_of_any {l : List Int} (h : l.any uDe = false) : wide l := fun x hx => by
 have := List.any_eq_false.1 h x hx
 simp [uDe] at this; omega
theorem cw_zero {v : List Int} (h : cw v = 0) : 1 ≤ v.length ∧ v.length ≤ 1024 ∧ wide v := by
 unfold cw at h
 split at h
 ·cases h
 ·split at h
  ·cases h
  ·rename_i h1 h2; exact ⟨by omega, by omega, wide_of_any (by simpa using h2)⟩
theorem pair_zero {a b : List Int} (h : pairV a b = 0) : cw a = 0 ∧ cw b = 0 ∧ a.length = b.length := by
 unfold pairV at h
 split at h
 ·rename_i h1; exact absurd h h1
 ·split at h
  ·rename_i h1; exact absurd h h1
  ·split at h
   ·cases h
   ·rename_i h1 h2 h3; exact ⟨by simpa using h1, by simpa using h2, by simpa using h3⟩
theorem sqs_drop {a b : List Int} {i : Nat} (ha : i < a.length) (hb : i < b.length) : sqs (a.drop i) (b.drop i) = (a[i] - b[i]) * (a[i] - b[i]) + sqs (a.drop (i + 1)) (b.drop (i + 1)) := by
 rw [List.drop_eq_getElem_cons ha, List.drop_eq_getElem_cons hb]; rfl
theorem sq_le {x y : Int} (hx : -131072 ≤ x ∧ x ≤ 131072) (hy : -131072 ≤ y ∧ y ≤ 131072) : 0 ≤ (x - y) * (x - y) ∧ (x - y) * (x - y) ≤ 68719476736 := by
 have h1 : -262144 ≤ x - y ∧ x - y ≤ 262144 := by omega
 generalize x - y = d at h1
 refine ⟨?_, ?_⟩
 ·rcases Int.le_total 0 d with h | h
  ·exact Int.mul_nonneg h h
  ·exact Int.mul_nonneg_of_nonpos_of_nonpos h h
 ·have h2 : d * d ≤ 262144 * 262144 := by
   rcases Int.le_total 0 d with h | h
   ·exact Int.mul_le_mul h1.2 h1.2 h (by omega)
   ·have : d * d = (-d) * (-d) := by rw [Int.neg_mul_neg]
    rw [this]
    exact Int.mul_le_mul (by omega) (by omega) (by omega) (by omega)
  omega
theorem sq_step {x y s : Int} {k : Nat} (hx : -131072 ≤ x ∧ x ≤ 131072) (hy : -131072 ≤ y ∧ y ≤ 131072) (h0 : 0 ≤ s) (h1 : s ≤ k * 68719476736) (hk : k < 1024) :
  uAa .i64 (Int.add s (uAa .i64 (Int.mul (uAa .i64 (Int.sub (uAa .i64 x) (uAa .i64 y))) (uAa .i64 (Int.sub (uAa .i64 x) (uAa .i64 y)))))) = s + (x - y) * (x - y) ∧ 0 ≤ s + (x - y) * (x - y) ∧ s + (x - y) * (x - y) ≤ (k + 1 : Nat) * 68719476736 := by
 have q := sq_le hx hy
 have e2 : uAa .i64 x = x := w64 (by omega) (by omega)
 have e3 : uAa .i64 y = y := w64 (by omega) (by omega)
 have e4 : uAa .i64 (Int.sub x y) = x - y := wsub (by omega) (by omega)
 have e5 : uAa .i64 (Int.mul (x - y) (x - y)) = (x - y) * (x - y) := Det.wmul (by omega) (by omega)
 have e6 : uAa .i64 (Int.add s ((x - y) * (x - y))) = s + (x - y) * (x - y) := wadd (by omega) (by omega)
 rw [e2, e3, e4, e5, e6]
 exact ⟨rfl, by omega, by omega⟩
abbrev distZ := (Int × Int × (List Int) × (List Int) × Int × Unit) × (Unit)
noncomputable def distSl : Tel (Int × Int × (List Int) × (List Int) × Int × Unit) := .ji 19 (.ji 18 (.cons 17 (.lst Ei32) (.cons 1 (.lst Ei32) (.ji 7 (.nil)))))
noncomputable def distBl : BTel (Unit) := .nil
noncomputable def distFs : List (LForm distZ) := [⟨_, _, distSl, distBl, fun x y => (x, y)⟩]
noncomputable def distAlts (R0 : distZ → qVect2 → (Unit) → Prop) : List (Alt distZ) := [⟨.exit 0, Int × Unit, Unit, .ji 7 (.nil), .nil, R0⟩]
theorem distForm (i n : Int) (a b : List Int) (s : Int) (N : distZ → Prop) (R0 : distZ → qVect2 → (Unit) → Prop) : ((runW PP qVeck0 100).code none 42 39 (uAd PP 42 6) (mkT (distSl.av id (i, n, a, b, s, ()))) [] (stL false (distBl.obs id ())) (uCh 0 distFs (distAlts R0) ((i, n, a, b, s, ()), ()) N)) = ( ifp (!uAf n i) (uAp i a.length ∧ ∃ x : Int, nth ((uAc i).mul 1) (a.flatMap Ei32.f) = some (AV.int .i32 x) ∧ uAp i b.length ∧ ∃ x_1 : Int, nth ((uAc i).mul 1) (b.flatMap Ei32.f) = some (AV.int .i32 x_1) ∧ True ∧ ∃ l, Wv Ei32 a l ∧ ∃ l_1, Wv Ei32 b l_1 ∧ true = true ∧ N ((uAa .i64 (i.add 1), n, l, l_1, uAa .i64 (s.add (uAa .i64 ((uAa .i64 ((uAa .i64 x).sub (uAa .i64 x_1))).mul (uAa .i64 ((uAa .i64 x).sub (uAa .i64 x_1)))))), ()), ())) (True ∧ true = true ∧ R0 ((i, n, a, b, s, ()), ()) (s, ()) ())) := by kernel_rfl
def distInv : distZ → Prop := fun ((i, n, a, b, s, ()), ()) => ∃ k : Nat, i = k ∧ n = a.length ∧ k ≤ a.length ∧ a.length ≤ 1024 ∧ a.length = b.length ∧ wide a ∧ wide b ∧ 0 ≤ s ∧ s ≤ k * 68719476736
def distMu : distZ → Nat := fun ((i, n, a, b, s, ()), ()) => a.length - i.toNat
def distR0 : distZ → qVect2 → (Unit) → Prop := fun ((i, n, a, b, s, ()), ()) (r, _) _ => r = s + sqs (a.drop i.toNat) (b.drop i.toNat)
noncomputable def distC : uB5 := uC9 0 distFs (distAlts distR0) distInv
theorem distStep : uA3 PP qVeck0 100 42 39 (uAd PP 42 6) 0 false distFs (distAlts distR0) distInv distMu ⟨_, _, distSl, distBl, fun x y => (x, y)⟩ := by
 intro x y hz
 obtain ⟨i, n, a, b, s, _⟩ := x
 obtain _ := y
 refine (distForm i n a b s _ _).mpr ?_
 obtain ⟨k, rfl, rfl, hk, hl, hab, wa, wb, s0, s1⟩ := hz
 rw [uAe]
 simp only [uAt]
 split
 ·rename_i h
  have hka : k < a.length := by simpa using h
  have hkb : k < b.length := by omega
  repeat first | refine ⟨Nat.le_refl _, ?_⟩ | rw [uAj (uAg (by simp only [Nat.add_eq]; omega) (by decide))] | refine ⟨trivial, ?_⟩ | refine ⟨(rfl : true = true), ?_⟩ | refine ⟨uAk (by omega), ?_⟩ | refine ⟨uA8 (by omega), ?_⟩ | refine ⟨_, uBa (by omega), ?_⟩ | refine ⟨_, _, _, _, _, _, uA4 (by omega), ?_⟩ | refine ⟨_, _, _, _, _, _, nth_lst0 (by omega), ?_⟩ | refine ⟨_, Wk.refl _, ?_⟩ | rw [uAj rfl]
  obtain ⟨e1, e2, e3⟩ := sq_step (wa _ (List.getElem_mem hka)) (wb _ (List.getElem_mem hkb)) s0 s1 (by omega)
  rw [uCb (by omega), e1]
  refine ⟨⟨k + 1, rfl, rfl, hka, hl, hab, wa, wb, e2, e3⟩, ?_, fun c _ hr => ?_, trivial⟩
  ·show a.length - (k + 1) < a.length - k; omega
  ·obtain ⟨r, _⟩ := c
   have hr' : r = s + (a[k] - b[k]) * (a[k] - b[k]) + sqs (a.drop (k + 1)) (b.drop (k + 1)) := hr
   show r = s + sqs (a.drop k) (b.drop k)
   rw [hr', sqs_drop hka hkb]; omega
 ·rename_i h
  repeat first | refine ⟨Nat.le_refl _, ?_⟩ | rw [uAj (uAg (by simp only [Nat.add_eq]; omega) (by decide))] | refine ⟨trivial, ?_⟩ | refine ⟨(rfl : true = true), ?_⟩ | refine ⟨uAk (by omega), ?_⟩ | refine ⟨uA8 (by omega), ?_⟩ | refine ⟨_, uBa (by omega), ?_⟩ | refine ⟨_, _, _, _, _, _, uA4 (by omega), ?_⟩ | refine ⟨_, _, _, _, _, _, nth_lst0 (by omega), ?_⟩ | refine ⟨_, Wk.refl _, ?_⟩ | rw [uAj rfl]
  show s = s + sqs (a.drop k) (b.drop k)
  rw [List.drop_of_length_le (by simpa using h)]; simp [sqs]
theorem distOk : uAs PP 42 39 (.loop (uAd PP 42 6)) (distC) := uBf distMu  mixed (uC8 (uAq)) rfl (uAo distStep (uAx))
noncomputable def distT : Tel qVect1 := .cons 0 (.lst Ei32) (.cons 1 (.lst Ei32) (.nil))
theorem distFn (a b : List Int) (Q : AV → Prop) : (uA2 PP (runW PP (KL [(60, pairK)] [(42, [(6, distC)])]) 200) 42 (distT.cells id (a, b, ())) (stE false) (fun x st => frzW st x Q)) = ( ∃ l, Wv Ei32 a l ∧ ∃ l_1, Wv Ei32 b l_1 ∧ pairPre (l, l_1, ()) ∧ ifp (!uA0 (pairV l l_1) 0) (Q (AV.tuple [I64 0, I64 (pairV l l_1)])) (uAs PP 42 39 (uAd PP 42 6).loop distC ∧ True ∧ True ∧ ∃ l, Wv Ei32 a l ∧ ∃ l_2, Wv Ei32 b l_2 ∧ true = true ∧ distInv ((0, Int.ofNat a.length, l, l_2, 0, ()), ()) ∧ (∀ c d, distR0 ((0, Int.ofNat a.length, l, l_2, 0, ()), ()) c d → Q (AV.tuple [I64 c.1, I64 0])) ∧ True)) := by kernel_rfl
def distPre : (List Int) × (List Int) × Unit → Prop := fun (a, b, ()) => True
noncomputable def distRes : (List Int) × (List Int) × Unit → AV := fun (a, b, ()) => .tuple [.int .i64 (uBn a b), .int .i64 (pairV a b)]
noncomputable def distK : uA6 := valC distT distPre distRes
theorem distVal (a : List Int) (b : List Int) (hp : distPre (a, b, ())) : Val PP 42 (distT.cells id (a, b, ())) (distRes (a, b, ())) := by
 refine Val.ofF mixed (uC8 (uAi pairCc (uAq))) (uDa rfl _) (distFn a b) ?_
 repeat first | refine ⟨Nat.le_refl _, ?_⟩ | rw [uAj (uAg (by simp only [Nat.add_eq]; omega) (by decide))] | refine ⟨trivial, ?_⟩ | refine ⟨(rfl : true = true), ?_⟩ | refine ⟨uAk (by omega), ?_⟩ | refine ⟨uA8 (by omega), ?_⟩ | refine ⟨_, uBa (by omega), ?_⟩ | refine ⟨_, _, _, _, _, _, uA4 (by omega), ?_⟩ | refine ⟨_, _, _, _, _, _, nth_lst0 (by omega), ?_⟩ | refine ⟨_, Wk.refl _, ?_⟩ | rw [uAj rfl]
 rw [uBu]
 split
 ·rename_i h
  obtain ⟨ca, cb, hab⟩ := pair_zero h
  obtain ⟨a1, a2, wa⟩ := cw_zero ca
  obtain ⟨b1, b2, wb⟩ := cw_zero cb
  refine ⟨distOk, ?_⟩
  repeat first | refine ⟨Nat.le_refl _, ?_⟩ | rw [uAj (uAg (by simp only [Nat.add_eq]; omega) (by decide))] | refine ⟨trivial, ?_⟩ | refine ⟨(rfl : true = true), ?_⟩ | refine ⟨uAk (by omega), ?_⟩ | refine ⟨uA8 (by omega), ?_⟩ | refine ⟨_, uBa (by omega), ?_⟩ | refine ⟨_, _, _, _, _, _, uA4 (by omega), ?_⟩ | refine ⟨_, _, _, _, _, _, nth_lst0 (by omega), ?_⟩ | refine ⟨_, Wk.refl _, ?_⟩ | rw [uAj rfl]
  refine ⟨⟨0, rfl, rfl, by omega, a2, hab, wa, wb, by omega, by omega⟩, fun c _ hr => ?_, trivial⟩
  obtain ⟨r, _⟩ := c
  have hr' : r = 0 + sqs (a.drop 0) (b.drop 0) := hr
  exact tells_tuple ⟨uAr (by show r = _; rw [hr', uBn, if_pos h]; simp), uAr (by rw [h]), trivial⟩
 ·rename_i h
  exact tells_tuple ⟨uAr (by rw [uBn, if_neg h]), uAr rfl, trivial⟩
theorem distCc : CcOk PP 42 distK := uC2 rfl (fun ⟨a, ⟨b, _⟩⟩ h => distVal a b h)
abbrev rdistZ := (Int × (List Int) × (List Int) × Int × Unit) × (Unit)
noncomputable def rdistSl : Tel (Int × (List Int) × (List Int) × Int × Unit) := .ji 8 (.cons 0 (.lst Ei32) (.cons 1 (.lst Ei32) (.ji 7 (.nil))))
noncomputable def rdistBl : BTel (Unit) := .nil
noncomputable def rdistFs : List (LForm rdistZ) := [⟨_, _, rdistSl, rdistBl, fun x y => (x, y)⟩]
noncomputable def rdistAlts (R0 : rdistZ → qVect2 → (Unit) → Prop) : List (Alt rdistZ) := [⟨.exit 0, Int × Unit, Unit, .ji 7 (.nil), .nil, R0⟩]
theorem rdistForm (i : Int) (a b : List Int) (s : Int) (N : rdistZ → Prop) (R0 : rdistZ → qVect2 → (Unit) → Prop) : ((runW PP qVeck0 100).code none 13 39 (uAd PP 13 6) (mkT (rdistSl.av id (i, a, b, s, ()))) [] (stL false (rdistBl.obs id ())) (uCh 0 rdistFs (rdistAlts R0) ((i, a, b, s, ()), ()) N)) = ( ifp (!uAf (Int.ofNat a.length) i) (uAp i a.length ∧ ∃ x : Int, nth ((uAc i).mul 1) (a.flatMap Ei32.f) = some (AV.int .i32 x) ∧ uAp i b.length ∧ ∃ x_1 : Int, nth ((uAc i).mul 1) (b.flatMap Ei32.f) = some (AV.int .i32 x_1) ∧ True ∧ True ∧ True ∧ True ∧ True ∧ ∃ l, Wv Ei32 a l ∧ ∃ l_1, Wv Ei32 b l_1 ∧ true = true ∧ N ((uAa .i64 (i.add 1), l, l_1, uAa .i64 (s.add (uAa .i64 ((uAa .i64 ((uAa .i64 x).sub (uAa .i64 x_1))).mul (uAa .i64 ((uAa .i64 x).sub (uAa .i64 x_1)))))), ()), ())) (True ∧ true = true ∧ R0 ((i, a, b, s, ()), ()) (s, ()) ())) := by kernel_rfl
def rdistInv : rdistZ → Prop := fun ((i, a, b, s, ()), ()) => ∃ k : Nat, i = k ∧ k ≤ a.length ∧ a.length ≤ 1024 ∧ a.length = b.length ∧ wide a ∧ wide b ∧ 0 ≤ s ∧ s ≤ k * 68719476736
def rdistMu : rdistZ → Nat := fun ((i, a, b, s, ()), ()) => a.length - i.toNat
def rdistR0 : rdistZ → qVect2 → (Unit) → Prop := fun ((i, a, b, s, ()), ()) (r, _) _ => r = s + sqs (a.drop i.toNat) (b.drop i.toNat)
noncomputable def rdistC : uB5 := uC9 0 rdistFs (rdistAlts rdistR0) rdistInv
theorem rdistStep : uA3 PP qVeck0 100 13 39 (uAd PP 13 6) 0 false rdistFs (rdistAlts rdistR0) rdistInv rdistMu ⟨_, _, rdistSl, rdistBl, fun x y => (x, y)⟩ := by
 intro x y hz
 obtain ⟨i, a, b, s, _⟩ := x
 obtain _ := y
 refine (rdistForm i a b s _ _).mpr ?_
 obtain ⟨k, rfl, hk, hl, hab, wa, wb, s0, s1⟩ := hz
 rw [uAe]
 simp only [uAt]
 split
 ·rename_i h
  have hka : k < a.length := by simpa using h
  have hkb : k < b.length := by omega
  repeat first | refine ⟨Nat.le_refl _, ?_⟩ | rw [uAj (uAg (by simp only [Nat.add_eq]; omega) (by decide))] | refine ⟨trivial, ?_⟩ | refine ⟨(rfl : true = true), ?_⟩ | refine ⟨uAk (by omega), ?_⟩ | refine ⟨uA8 (by omega), ?_⟩ | refine ⟨_, uBa (by omega), ?_⟩ | refine ⟨_, _, _, _, _, _, uA4 (by omega), ?_⟩ | refine ⟨_, _, _, _, _, _, nth_lst0 (by omega), ?_⟩ | refine ⟨_, Wk.refl _, ?_⟩ | rw [uAj rfl]
  obtain ⟨e1, e2, e3⟩ := sq_step (wa _ (List.getElem_mem hka)) (wb _ (List.getElem_mem hkb)) s0 s1 (by omega)
  rw [uCb (by omega), e1]
  refine ⟨⟨k + 1, rfl, hka, hl, hab, wa, wb, e2, e3⟩, ?_, fun c _ hr => ?_, trivial⟩
  ·show a.length - (k + 1) < a.length - k; omega
  ·obtain ⟨r, _⟩ := c
   have hr' : r = s + (a[k] - b[k]) * (a[k] - b[k]) + sqs (a.drop (k + 1)) (b.drop (k + 1)) := hr
   show r = s + sqs (a.drop k) (b.drop k)
   rw [hr', sqs_drop hka hkb]; omega
 ·rename_i h
  repeat first | refine ⟨Nat.le_refl _, ?_⟩ | rw [uAj (uAg (by simp only [Nat.add_eq]; omega) (by decide))] | refine ⟨trivial, ?_⟩ | refine ⟨(rfl : true = true), ?_⟩ | refine ⟨uAk (by omega), ?_⟩ | refine ⟨uA8 (by omega), ?_⟩ | refine ⟨_, uBa (by omega), ?_⟩ | refine ⟨_, _, _, _, _, _, uA4 (by omega), ?_⟩ | refine ⟨_, _, _, _, _, _, nth_lst0 (by omega), ?_⟩ | refine ⟨_, Wk.refl _, ?_⟩ | rw [uAj rfl]
  show s = s + sqs (a.drop k) (b.drop k)
  rw [List.drop_of_length_le (by simpa using h)]; simp [sqs]
theorem rdistOk : uAs PP 13 39 (.loop (uAd PP 13 6)) (rdistC) := uBf rdistMu  mixed (uC8 (uAq)) rfl (uAo rdistStep (uAx))
noncomputable def rdistT : Tel qVect1 := .cons 0 (.lst Ei32) (.cons 1 (.lst Ei32) (.nil))
theorem rdistFn (a b : List Int) (Q : AV → Prop) : (uA2 PP (runW PP (KL [(30, rboth3K)] [(13, [(6, rdistC)])]) 200) 13 (rdistT.cells id (a, b, ())) (stE false) (fun x st => frzW st x Q)) = ( ∃ l, Wv Ei32 a l ∧ ∃ l_1, Wv Ei32 b l_1 ∧ rboth3Pre (l, l_1, ()) ∧ ifp (!uA0 (pairV l l_1) 0) (Q (AV.tuple [I64 0, I64 (pairV l l_1)])) (uAs PP 13 39 (uAd PP 13 6).loop rdistC ∧ True ∧ True ∧ ∃ l, Wv Ei32 a l ∧ ∃ l_2, Wv Ei32 b l_2 ∧ true = true ∧ rdistInv ((0, l, l_2, 0, ()), ()) ∧ (∀ c d, rdistR0 ((0, l, l_2, 0, ()), ()) c d → Q (AV.tuple [I64 c.1, I64 0])) ∧ True)) := by kernel_rfl
def rdistPre : (List Int) × (List Int) × Unit → Prop := fun (a, b, ()) => True
noncomputable def rdistRes : (List Int) × (List Int) × Unit → AV := fun (a, b, ()) => .tuple [.int .i64 (uBn a b), .int .i64 (pairV a b)]
noncomputable def rdistK : uA6 := valC rdistT rdistPre rdistRes
theorem rdistVal (a : List Int) (b : List Int) (hp : rdistPre (a, b, ())) : Val PP 13 (rdistT.cells id (a, b, ())) (rdistRes (a, b, ())) := by
 refine Val.ofF mixed (uC8 (uAi rboth3Cc (uAq))) (uDa rfl _) (rdistFn a b) ?_
 repeat first | refine ⟨Nat.le_refl _, ?_⟩ | rw [uAj (uAg (by simp only [Nat.add_eq]; omega) (by decide))] | refine ⟨trivial, ?_⟩ | refine ⟨(rfl : true = true), ?_⟩ | refine ⟨uAk (by omega), ?_⟩ | refine ⟨uA8 (by omega), ?_⟩ | refine ⟨_, uBa (by omega), ?_⟩ | refine ⟨_, _, _, _, _, _, uA4 (by omega), ?_⟩ | refine ⟨_, _, _, _, _, _, nth_lst0 (by omega), ?_⟩ | refine ⟨_, Wk.refl _, ?_⟩ | rw [uAj rfl]
 rw [uBu]
 split
 ·rename_i h
  obtain ⟨ca, cb, hab⟩ := pair_zero h
  obtain ⟨a1, a2, wa⟩ := cw_zero ca
  obtain ⟨b1, b2, wb⟩ := cw_zero cb
  refine ⟨rdistOk, ?_⟩
  repeat first | refine ⟨Nat.le_refl _, ?_⟩ | rw [uAj (uAg (by simp only [Nat.add_eq]; omega) (by decide))] | refine ⟨trivial, ?_⟩ | refine ⟨(rfl : true = true), ?_⟩ | refine ⟨uAk (by omega), ?_⟩ | refine ⟨uA8 (by omega), ?_⟩ | refine ⟨_, uBa (by omega), ?_⟩ | refine ⟨_, _, _, _, _, _, uA4 (by omega), ?_⟩ | refine ⟨_, _, _, _, _, _, nth_lst0 (by omega), ?_⟩ | refine ⟨_, Wk.refl _, ?_⟩ | rw [uAj rfl]
  refine ⟨⟨0, rfl, by omega, a2, hab, wa, wb, by omega, by omega⟩, fun c _ hr => ?_, trivial⟩
  obtain ⟨r, _⟩ := c
  have hr' : r = 0 + sqs (a.drop 0) (b.drop 0) := hr
  exact tells_tuple ⟨uAr (by show r = _; rw [hr', uBn, if_pos h]; simp), uAr (by rw [h]), trivial⟩
 ·rename_i h
  exact tells_tuple ⟨uAr (by rw [uBn, if_neg h]), uAr rfl, trivial⟩
theorem rdistCc : CcOk PP 13 rdistK := uC2 rfl (fun ⟨a, ⟨b, _⟩⟩ h => rdistVal a b h)
def vchk (v : List Int) (d : Int) : Int := if d < 1 ∨ 1024 < d ∨ (v.length : Int) ≠ d then 2 else 0
abbrev Ei16 : Enc Int := Enc.int .i16
abbrev Eu64 : Enc Int := Enc.int .u64
noncomputable def uAv (v : List Int) : List Int := v.map (uAa .i32)
theorem wide_len (v : List Int) : (uAv v).length = v.length := List.length_map ..
theorem wide_take {v : List Int} {k : Nat} (h : k < v.length) : uAv (v.take (k + 1)) = uAv (v.take k) ++ [uAa .i32 v[k]] := by
 rw [← List.take_append_getElem h, uAv, List.map_append]; rfl
noncomputable def chkT : Tel qVect3 := .cons 0 (.lst Ei16) (.ji 1 (.nil))
theorem chkFn (v : List Int) (d : Int) (Q : AV → Prop) : (uA2 PP (runW PP qVeck0 200) 31 (chkT.cells id (v, d, ())) (stE false) (fun x st => frzW st x Q)) = ( ifp (!uAf 1 d) (Q (I64 2)) (ifp (!uAf d 1024) (Q (I64 2)) (ifp (!uA0 (Int.ofNat v.length) d) (Q (I64 2)) (Q (I64 0))))) := by kernel_rfl
def chkPre : (List Int) × Int × Unit → Prop := fun (v, d, ()) => True
noncomputable def chkRes : (List Int) × Int × Unit → AV := fun (v, d, ()) => .int .i64 (vchk v d)
noncomputable def chkK : uA6 := valC chkT chkPre chkRes
theorem chkVal (v : List Int) (d : Int) (hp : chkPre (v, d, ())) : Val PP 31 (chkT.cells id (v, d, ())) (chkRes (v, d, ())) := by
 refine Val.ofF mixed (uC8 (uAq)) (uDa rfl _) (chkFn v d) ?_
 rw [uAe, uAe, uBu]
 split
 ·rename_i h; exact uAr (by rw [vchk, if_pos (Or.inl h)])
 ·rename_i h
  split
  ·rename_i h2; exact uAr (by rw [vchk, if_pos (Or.inr (Or.inl h2))])
  ·rename_i h2
   split
   ·rename_i h3; exact uAr (by have h3' : (v.length : Int) = d := h3; rw [vchk, if_neg (by omega)])
   ·rename_i h3; exact uAr (by have h3' : ¬ (v.length : Int) = d := h3; rw [vchk, if_pos (Or.inr (Or.inr h3'))])
theorem chkCc : CcOk PP 31 chkK := uC2 rfl (fun ⟨v, ⟨d, _⟩⟩ h => chkVal v d h)
noncomputable def rchkT : Tel qVect3 := .cons 0 (.lst Ei16) (.ji 1 (.nil))
theorem rchkFn (v : List Int) (d : Int) (Q : AV → Prop) : (uA2 PP (runW PP qVeck0 200) 34 (rchkT.cells id (v, d, ())) (stE false) (fun x st => frzW st x Q)) = ( ifp (!uAf 1 d) (Q (I64 2)) (ifp (!uAf d 1024) (Q (I64 2)) (ifp (!uA0 (Int.ofNat v.length) d) (Q (I64 2)) (Q (I64 0))))) := by kernel_rfl
def rchkPre : (List Int) × Int × Unit → Prop := fun (v, d, ()) => True
noncomputable def rchkRes : (List Int) × Int × Unit → AV := fun (v, d, ()) => .int .i64 (vchk v d)
noncomputable def rchkK : uA6 := valC rchkT rchkPre rchkRes
theorem rchkVal (v : List Int) (d : Int) (hp : rchkPre (v, d, ())) : Val PP 34 (rchkT.cells id (v, d, ())) (rchkRes (v, d, ())) := by
 refine Val.ofF mixed (uC8 (uAq)) (uDa rfl _) (rchkFn v d) ?_
 rw [uAe, uAe, uBu]
 split
 ·rename_i h; exact uAr (by rw [vchk, if_pos (Or.inl h)])
 ·rename_i h
  split
  ·rename_i h2; exact uAr (by rw [vchk, if_pos (Or.inr (Or.inl h2))])
  ·rename_i h2
   split
   ·rename_i h3; exact uAr (by have h3' : (v.length : Int) = d := h3; rw [vchk, if_neg (by omega)])
   ·rename_i h3; exact uAr (by have h3' : ¬ (v.length : Int) = d := h3; rw [vchk, if_pos (Or.inr (Or.inr h3'))])
theorem rchkCc : CcOk PP 34 rchkK := uC2 rfl (fun ⟨v, ⟨d, _⟩⟩ h => rchkVal v d h)
abbrev qVect0 := Unit × Unit
abbrev eachZ := (Unit × (List Int) × Int × Int × (List Int) × Unit) × qVect0
noncomputable def eachSl : Tel (Unit × (List Int) × Int × Int × (List Int) × Unit) := .cons 1 (.fnp 57 []) (.cons 11 (.lst Ei16) (.ji 12 (.ji 13 (.cons 5 (.own Ei32 0) (.nil)))))
noncomputable def eachBl : BTel qVect0 := .cons (.spare) (.nil)
noncomputable def eachFs : List (LForm eachZ) := [⟨_, _, eachSl, eachBl, fun x y => (x, y)⟩]
abbrev qVec0 := (List Int) × Unit
noncomputable def eachAlts (R0 : eachZ → qVec0 → qVect0 → Prop) : List (Alt eachZ) := [⟨.exit 0, qVec0, Unit × Unit, .cons 5 (.own Ei32 0) (.nil), .cons (.spare) (.nil), R0⟩]
theorem eachForm (l : List Int) (n i : Int) (out : List Int) (N : eachZ → Prop) (R0 : eachZ → qVec0 → qVect0 → Prop) : ((runW PP qVeck0 100).code none 56 25 (uAd PP 56 3) (mkT (eachSl.av id ((), l, n, i, out, ()))) [] (stL true (eachBl.obs id ((), ()))) (uCh 0 eachFs (eachAlts R0) (((), l, n, i, out, ()), (), ()) N)) = ( ifp (!uAf n i) (uAp i l.length ∧ ∃ x : Int, nth ((uAc i).mul 1) (l.flatMap Ei16.f) = some (AV.int .i16 x) ∧ 1 ≤ 1 ∧ ifp (roomy (out.length.add 1) 4) (True ∧ ∃ l_1, Wv Ei16 l l_1 ∧ ∃ (l : List Int), (WkL (out.flatMap Ei32.f ++ [AV.int .i32 (uAa .i32 x)]) (l.flatMap Ei32.f) ∧ out.length.add 1 = l.length ∧ 1 = 1) ∧ true = true ∧ N (((), l_1, n, uAa .i64 (i.add 1), l, ()), (), ())) False) (True ∧ ∃ l_1, Ow Ei32 out l_1 1 ∧ true = true ∧ R0 (((), l, n, i, out, ()), (), ()) (l_1, ()) ((), ()))) := by kernel_rfl
def eachInv : eachZ → Prop := fun (((), l, n, i, out, ()), (), ()) => ∃ k : Nat, i = k ∧ n = l.length ∧ k ≤ l.length ∧ l.length ≤ 1000000 ∧ out = uAv (l.take k)
def eachMu : eachZ → Nat := fun (((), l, n, i, out, ()), (), ()) => l.length - i.toNat
def eachR0 : eachZ → qVec0 → qVect0 → Prop := fun (((), l, n, i, out, ()), (), ()) (r, _) _ => r = uAv l
noncomputable def eachC : uB5 := uC9 0 eachFs (eachAlts eachR0) eachInv
theorem eachStep : uA3 PP qVeck0 100 56 25 (uAd PP 56 3) 0 true eachFs (eachAlts eachR0) eachInv eachMu ⟨_, _, eachSl, eachBl, fun x y => (x, y)⟩ := by
 intro x y hz
 obtain ⟨_, l, n, i, out, _⟩ := x
 obtain ⟨_, _⟩ := y
 refine (eachForm l n i out _ _).mpr ?_
 obtain ⟨k, rfl, rfl, hk, hl, rfl⟩ := hz
 rw [uAe]
 simp only [uAt]
 have ht : (uAv (l.take k)).length ≤ 1000000 := by rw [wide_len, List.length_take]; omega
 split
 ·rename_i h
  have hkl : k < l.length := by simpa using h
  repeat first | refine ⟨Nat.le_refl _, ?_⟩ | rw [uAj (uAg (by simp only [Nat.add_eq]; omega) (by decide))] | refine ⟨trivial, ?_⟩ | refine ⟨(rfl : true = true), ?_⟩ | refine ⟨uAk (by omega), ?_⟩ | refine ⟨uA8 (by omega), ?_⟩ | refine ⟨_, uBa (by omega), ?_⟩ | refine ⟨_, _, _, _, _, _, uA4 (by omega), ?_⟩ | refine ⟨_, _, _, _, _, _, nth_lst0 (by omega), ?_⟩ | refine ⟨_, Wk.refl _, ?_⟩ | rw [uAj rfl]
  refine ⟨uAv (l.take (k + 1)), ⟨?_, ?_, (by trivial)⟩, (by trivial), ?_⟩
  ·rw [wide_take hkl]; exact wkl_snoc (E := Ei32) ⟨Wk.refl _, trivial⟩
  ·rw [wide_take hkl]; exact len_snoc
  ·rw [uCb (by omega)]
   exact ⟨⟨k + 1, rfl, rfl, hkl, hl, rfl⟩, by show l.length - (k + 1) < l.length - k; omega, fun _ _ h => h, trivial⟩
 ·rename_i h
  have hkl : ¬ k < l.length := by simpa using h
  refine ⟨trivial, uAv l, ⟨?_, ?_, (by trivial)⟩, (by trivial), rfl⟩
  ·rw [take_all hkl]; exact WkL.refl _
  ·rw [take_all hkl]
theorem eachOk : uAs PP 56 25 (.loop (uAd PP 56 3)) (eachC) := uBf eachMu  mixed (uC8 (uAq)) rfl (uAo eachStep (uAx))
noncomputable def wideT : Tel qVec0 := .cons 0 (.lst Ei16) (.nil)
theorem wideFn (v : List Int) (Q : AV → Prop) : (uA2 PP (runW PP (KL [] [(56, [(3, eachC)])]) 200) 39 (wideT.cells id (v, ())) (stE true) (fun x st => frzW st x Q)) = ( (0 : Int) ≤ 0 ∧ (0 : Int) ≤ Int.ofNat v.length ∧ Int.ofNat v.length ≤ 16777216 ∧ roomy (uAc (Int.ofNat v.length)) 4 = true ∧ (0 : Int) = 0 ∧ uAs PP 56 25 (uAd PP 56 3).loop eachC ∧ True ∧ True ∧ ∃ l, Wv Ei16 v l ∧ ∃ (l_1 : List Int), (WkL [] (l_1.flatMap Ei32.f) ∧ 0 = l_1.length ∧ 1 = 1) ∧ true = true ∧ eachInv (((), l, Int.ofNat v.length, 0, l_1, ()), (), ()) ∧ (∀ c d, eachR0 (((), l, Int.ofNat v.length, 0, l_1, ()), (), ()) c d → Q (AV.vs (List.flatMap Ei32.f c.1) c.1.length c.1.length false (some 1) 1)) ∧ True) := by kernel_rfl
def widePre : (List Int) × Unit → Prop := fun (v, ()) => v.length ≤ 1000000
noncomputable def wideRes : (List Int) × Unit → AV := fun (v, ()) => lst Ei32 (uAv v)
noncomputable def wideK : uA6 := valC wideT widePre wideRes
theorem wideVal (v : List Int) (hp : widePre (v, ())) : Val PP 39 (wideT.cells id (v, ())) (wideRes (v, ())) := by
 refine Val.ofF mixed (uC8 (uAq)) (uDa rfl _) (wideFn v) ?_
 have hp' : v.length ≤ 1000000 := hp
 refine ⟨Int.le_refl _, Int.natCast_nonneg _, by simp only [Int.ofNat_eq_natCast]; omega, uAg (by show v.length ≤ _; omega) (by decide), rfl, eachOk, trivial, trivial, v, Wk.refl _, [], ⟨trivial, rfl, rfl⟩, rfl, ⟨0, rfl, rfl, Nat.zero_le _, hp', rfl⟩, fun c _ hr => ?_, trivial⟩
 obtain ⟨r, _⟩ := c
 obtain rfl : r = uAv v := hr
 exact tells_lst ⟨rfl, rfl, rfl⟩
theorem wideCc : CcOk PP 39 wideK := uC2 rfl (fun ⟨v, _⟩ h => wideVal v h)
abbrev rwideZ := ((List Int) × (List Int) × Int × Unit) × qVect0
noncomputable def rwideSl : Tel ((List Int) × (List Int) × Int × Unit) := .cons 0 (.lst Ei16) (.cons 3 (.own Ei32 0) (.ji 4 (.nil)))
noncomputable def rwideBl : BTel qVect0 := .cons (.spare) (.nil)
noncomputable def rwideSl0 : Tel ((List Int) × Unit × Int × Unit) := .cons 0 (.lst Ei16) (.cons 3 (.nilS) (.ji 4 (.nil)))
noncomputable def rwideBl0 : BTel (Unit) := .nil
noncomputable def rwideZ0 : ((List Int) × Unit × Int × Unit) → (Unit) → rwideZ := fun (l, (), i, ()) () => ((l, [], i, ()), (), ())
noncomputable def rwideFs : List (LForm rwideZ) := [⟨_, _, rwideSl, rwideBl, fun x y => (x, y)⟩, ⟨_, _, rwideSl0, rwideBl0, rwideZ0⟩]
noncomputable def rwideAlts (R0 : rwideZ → qVec0 → qVect0 → Prop) (R1 : rwideZ → qVect0 → (Unit) → Prop) : List (Alt rwideZ) := [⟨.exit 0, qVec0, Unit × Unit, .cons 3 (.own Ei32 0) (.nil), .cons (.spare) (.nil), R0⟩, ⟨.exit 0, Unit × Unit, Unit, .cons 3 (.nilS) (.nil), .nil, R1⟩]
theorem rwideForm (l out : List Int) (i : Int) (N : rwideZ → Prop) (R0 : rwideZ → qVec0 → qVect0 → Prop) (R1 : rwideZ → qVect0 → (Unit) → Prop) : ((runW PP qVeck0 100).code none 14 20 (uAd PP 14 3) (mkT (rwideSl.av id (l, out, i, ()))) [] (stL true (rwideBl.obs id ((), ()))) (uCh 0 rwideFs (rwideAlts R0 R1) ((l, out, i, ()), (), ()) N)) = ( ifp (!uAf (Int.ofNat l.length) i) (uAp i l.length ∧ ∃ x : Int, nth ((uAc i).mul 1) (l.flatMap Ei16.f) = some (AV.int .i16 x) ∧ 1 ≤ 1 ∧ ifp (roomy (out.length.add 1) 4) (True ∧ ((∃ l_1, Wv Ei16 l l_1 ∧ ∃ (l : List Int), (WkL (out.flatMap Ei32.f ++ [AV.int .i32 (uAa .i32 x)]) (l.flatMap Ei32.f) ∧ out.length.add 1 = l.length ∧ 1 = 1) ∧ true = true ∧ N ((l_1, l, uAa .i64 (i.add 1), ()), (), ())) ∨ ∃ l_1, Wv Ei16 l l_1 ∧ False)) False) ((True ∧ ∃ l_1, Ow Ei32 out l_1 1 ∧ true = true ∧ R0 ((l, out, i, ()), (), ()) (l_1, ()) ((), ())) ∨ True ∧ False)) := by kernel_rfl
theorem rwideForm0 (l : List Int) (i : Int) (N : rwideZ → Prop) (R0 : rwideZ → qVec0 → qVect0 → Prop) (R1 : rwideZ → qVect0 → (Unit) → Prop) : ((runW PP qVeck0 100).code none 14 20 (uAd PP 14 3) (mkT (rwideSl0.av id (l, (), i, ()))) [] (stL true (rwideBl0.obs id ())) (uCh 0 rwideFs (rwideAlts R0 R1) (rwideZ0 (l, (), i, ()) ()) N)) = ( ifp (!uAf (Int.ofNat l.length) i) (uAp i l.length ∧ ∃ x : Int, nth ((uAc i).mul 1) (l.flatMap Ei16.f) = some (AV.int .i16 x) ∧ 1 ≤ 1 ∧ True ∧ ((∃ l_1, Wv Ei16 l l_1 ∧ ∃ (l : List Int), (WkL [AV.int .i32 (uAa .i32 x)] (l.flatMap Ei32.f) ∧ 1 = l.length ∧ 1 = 1) ∧ true = true ∧ N ((l_1, l, uAa .i64 (i.add 1), ()), (), ())) ∨ ∃ l_1, Wv Ei16 l l_1 ∧ False)) (True ∧ False ∨ True ∧ true = true ∧ R1 ((l, [], i, ()), (), ()) ((), ()) ())) := by kernel_rfl
def rwideInv : rwideZ → Prop := fun ((l, out, i, ()), (), ()) => ∃ k : Nat, i = k ∧ k ≤ l.length ∧ l.length ≤ 1000000 ∧ out = uAv (l.take k)
def rwideMu : rwideZ → Nat := fun ((l, out, i, ()), (), ()) => l.length - i.toNat
def rwideR0 : rwideZ → qVec0 → qVect0 → Prop := fun ((l, out, i, ()), (), ()) (r, _) _ => r = uAv l
def rwideR1 : rwideZ → qVect0 → (Unit) → Prop := fun ((l, out, i, ()), (), ()) _ _ => l = []
noncomputable def rwideC : uB5 := uC9 0 rwideFs (rwideAlts rwideR0 rwideR1) rwideInv
theorem rwideStep : uA3 PP qVeck0 100 14 20 (uAd PP 14 3) 0 true rwideFs (rwideAlts rwideR0 rwideR1) rwideInv rwideMu ⟨_, _, rwideSl, rwideBl, fun x y => (x, y)⟩ := by
 intro x y hz
 obtain ⟨l, out, i, _⟩ := x
 obtain ⟨_, _⟩ := y
 refine (rwideForm l out i _ _ _).mpr ?_
 obtain ⟨k, rfl, hk, hl, rfl⟩ := hz
 rw [uAe]
 simp only [uAt]
 have ht : (uAv (l.take k)).length ≤ 1000000 := by rw [wide_len, List.length_take]; omega
 split
 ·rename_i h
  have hkl : k < l.length := by simpa using h
  repeat first | refine ⟨Nat.le_refl _, ?_⟩ | rw [uAj (uAg (by simp only [Nat.add_eq]; omega) (by decide))] | refine ⟨trivial, ?_⟩ | refine ⟨(rfl : true = true), ?_⟩ | refine ⟨uAk (by omega), ?_⟩ | refine ⟨uA8 (by omega), ?_⟩ | refine ⟨_, uBa (by omega), ?_⟩ | refine ⟨_, _, _, _, _, _, uA4 (by omega), ?_⟩ | refine ⟨_, _, _, _, _, _, nth_lst0 (by omega), ?_⟩ | refine ⟨_, Wk.refl _, ?_⟩ | rw [uAj rfl]
  refine Or.inl ⟨l, Wk.refl _, uAv (l.take (k + 1)), ⟨?_, ?_, (by trivial)⟩, (by trivial), ?_⟩
  ·rw [wide_take hkl]; exact wkl_snoc (E := Ei32) ⟨Wk.refl _, trivial⟩
  ·rw [wide_take hkl]; exact len_snoc
  ·rw [uCb (by omega)]
   exact ⟨⟨k + 1, rfl, hkl, hl, rfl⟩, by show l.length - (k + 1) < l.length - k; omega, fun _ _ h => h, fun _ _ h => h, trivial⟩
 ·rename_i h
  have hkl : ¬ k < l.length := by simpa using h
  refine Or.inl ⟨trivial, uAv l, ⟨?_, ?_, (by trivial)⟩, (by trivial), rfl⟩
  ·rw [take_all hkl]; exact WkL.refl _
  ·rw [take_all hkl]
theorem rwideStep0 : uA3 PP qVeck0 100 14 20 (uAd PP 14 3) 0 true rwideFs (rwideAlts rwideR0 rwideR1) rwideInv rwideMu ⟨_, _, rwideSl0, rwideBl0, rwideZ0⟩ := by
 intro x y hz
 obtain ⟨l, _, i, _⟩ := x
 obtain _ := y
 refine (rwideForm0 l i _ _ _).mpr ?_
 obtain ⟨k, rfl, hk, hl, h0⟩ := hz
 rw [uAe]
 simp only [uAt]
 have h0' := congrArg List.length h0
 rw [wide_len, List.length_take] at h0'
 simp only [List.length_nil] at h0'
 split
 ·rename_i h
  have hkl : k < l.length := by simpa using h
  obtain rfl : k = 0 := by omega
  repeat first | refine ⟨Nat.le_refl _, ?_⟩ | rw [uAj (uAg (by simp only [Nat.add_eq]; omega) (by decide))] | refine ⟨trivial, ?_⟩ | refine ⟨(rfl : true = true), ?_⟩ | refine ⟨uAk (by omega), ?_⟩ | refine ⟨uA8 (by omega), ?_⟩ | refine ⟨_, uBa (by omega), ?_⟩ | refine ⟨_, _, _, _, _, _, uA4 (by omega), ?_⟩ | refine ⟨_, _, _, _, _, _, nth_lst0 (by omega), ?_⟩ | refine ⟨_, Wk.refl _, ?_⟩ | rw [uAj rfl]
  refine Or.inl ⟨l, Wk.refl _, [uAa .i32 l[0]], ⟨wkl_one (E := Ei32) ⟨Wk.refl _, trivial⟩, by first | trivial | rfl, trivial⟩, trivial, ?_⟩
  rw [uCb (by omega)]
  exact ⟨⟨1, rfl, hkl, hl, by cases l with | nil => simp at hkl | cons a l => rfl⟩, by show l.length - 1 < l.length - 0; omega, fun _ _ h => h, fun _ _ h => h, trivial⟩
 ·rename_i h
  have hkl : ¬ k < l.length := by simpa using h
  exact Or.inr ⟨trivial, trivial, List.length_eq_zero_iff.1 (by omega)⟩
theorem rwideOk : uAs PP 14 20 (.loop (uAd PP 14 3)) (rwideC) := uBf rwideMu  mixed (uC8 (uAq)) rfl (uAo rwideStep (uAo rwideStep0 (uAx)))
noncomputable def rwideT : Tel qVec0 := .cons 0 (.lst Ei16) (.nil)
theorem rwideFn (v : List Int) (Q : AV → Prop) : (uA2 PP (runW PP (KL [] [(14, [(3, rwideC)])]) 200) 14 (rwideT.cells id (v, ())) (stE true) (fun x st => frzW st x Q)) = ( uAs PP 14 20 (uAd PP 14 3).loop rwideC ∧ True ∧ True ∧ ((∃ l, Wv Ei16 v l ∧ False) ∨ ∃ l, Wv Ei16 v l ∧ true = true ∧ rwideInv ((l, [], 0, ()), (), ()) ∧ (∀ c d, rwideR0 ((l, [], 0, ()), (), ()) c d → Q (AV.vs (List.flatMap Ei32.f c.1) c.1.length c.1.length false (some 0) 1)) ∧ (∀ c d, rwideR1 ((l, [], 0, ()), (), ()) c d → Q AV.nilSlice) ∧ True)) := by kernel_rfl
def rwidePre : (List Int) × Unit → Prop := fun (v, ()) => v.length ≤ 1000000
noncomputable def rwideRes : (List Int) × Unit → AV := fun (v, ()) => lst Ei32 (uAv v)
noncomputable def rwideK : uA6 := valC rwideT rwidePre rwideRes
theorem rwideVal (v : List Int) (hp : rwidePre (v, ())) : Val PP 14 (rwideT.cells id (v, ())) (rwideRes (v, ())) := by
 refine Val.ofF mixed (uC8 (uAq)) (uDa rfl _) (rwideFn v) ?_
 have hp' : v.length ≤ 1000000 := hp
 refine ⟨rwideOk, trivial, trivial, Or.inr ⟨v, Wk.refl _, rfl, ⟨0, rfl, Nat.zero_le _, hp', rfl⟩, fun c _ hr => ?_, fun _ _ hr => ?_, trivial⟩⟩
 ·obtain ⟨r, _⟩ := c
  obtain rfl : r = uAv v := hr
  exact tells_lst ⟨rfl, rfl, rfl⟩
 ·obtain rfl : v = [] := hr
  exact tells_nil _
theorem rwideCc : CcOk PP 14 rwideK := uC2 rfl (fun ⟨v, _⟩ h => rwideVal v h)
end Go.Proofs.YteehkdejkemnmacDoor
namespace Go.Proofs.YteehkdejkemnmacDoor
open Go.Det Go.RowKit
set_option maxRecDepth 100000
def tab : List Int := [0, 1, 56, 2, 57, 49, 28, 3, 61, 58, 42, 50, 38, 29, 17, 4, 62, 47, 59, 36, 45, 43, 51, 22, 53, 39, 33, 30, 24, 18, 12, 5, 63, 55, 48, 27, 60, 41, 37, 16, 46, 35, 44, 21, 52, 32, 23, 11, 54, 26, 40, 15, 34, 20, 31, 10, 25, 14, 19, 9, 13, 8, 7, 6]
abbrev GlOk (gl : Tr (List AV)) : Prop := GlIs 0 .u8 tab gl
abbrev Evl : Enc (List Int) := Enc.list Ei16
noncomputable def allB (n : Nat) (p : Nat → Bool) : Bool := Nat.rec true (fun k r => and (p k) r) n
theorem allB_at {p : Nat → Bool} : ∀ {n k : Nat}, allB n p = true → k < n → p k = true
 | 0, k, _, h => by omega
 | n + 1, k, h, hk => by
  have h' : (p n && allB n p) = true := h
  rw [Bool.and_eq_true] at h'
  rcases Nat.lt_or_ge k n with c | c
  ·exact allB_at h'.2 c
  ·obtain rfl : k = n := by omega
   exact h'.1
noncomputable def allB2 (n : Nat) (p : Nat → Nat → Bool) : Bool := allB n (fun a => allB n (p a))
theorem allB2_at {p : Nat → Nat → Bool} {n a b : Nat} (h : allB2 n p = true) (ha : a < n) (hb : b < n) : p a b = true := allB_at (p := p a) (allB_at (p := fun a => allB n (p a)) h ha) hb
def ones (k : Nat) : Int := Int.ofNat (Nat.pred (Nat.pow 2 k))
def tzX (n : Nat) : Int := Int.ofNat (Nat.sub 18446744073709551616 (Nat.pow 2 n))
theorem tzI : allB2 64 (fun a b => cond (uA0 (tzX a) (tzX b)) (Nat.beq a b) true) = true := by kernel_rfl
theorem tz_inj {a b : Nat} (ha : a < 64) (hb : b < 64) (h : tzX a = tzX b) : a = b := by
 have := allB2_at tzI ha hb
 rw [uBj.2 h] at this
 exact uA7 this
theorem onesI : allB2 64 (fun a b => cond (uA0 (ones a) (ones b)) (Nat.beq a b) true) = true := by kernel_rfl
theorem ones_inj {a b : Nat} (ha : a < 64) (hb : b < 64) (h : ones a = ones b) : a = b := by
 have := allB2_at onesI ha hb
 rw [uBj.2 h] at this
 exact uA7 this
theorem tzRan : allB 64 (fun n => answersInt .i64 (Int.ofNat n) ((run PP 100).call 55 [.int .u64 (tzX n)] (stG 0 .u8 tab))) = true := by kernel_rfl
abbrev qSlott4 := Int × Unit
noncomputable def tzT : Tel qSlott4 := .cons 0 (.int .u64) .nil
def tzPre : qSlott4 × Unit → Prop := fun ((x, ()), ()) => ∃ n : Nat, n < 64 ∧ x = tzX n
def tzR0 : qSlott4 × Unit → qSlott4 → Unit → Prop := fun ((x, ()), ()) (r, ()) () => ∀ n : Nat, n < 64 → x = tzX n → r = n
noncomputable def tzK (gl : Tr (List AV)) : uA6 := callCg gl 0 tzT BTel.nil tzPre [⟨_, _, .cons 0 (.int .i64) .nil, BTel.nil, tzR0⟩]
theorem tzCc {gl : Tr (List AV)} (hg : GlOk gl) : CcOk PP 55 (tzK gl) :=
 call_ok_ofg (vm := false) (rw' := fun _ => false) hg.fr rfl fun z hz => by
  obtain ⟨⟨x, _⟩, _⟩ := z
  obtain ⟨n, hn, rfl⟩ := hz
  obtain ⟨st1, h1⟩ := int_gl mixed (allB_at tzRan hn) hg false
  refine ⟨_, st1, h1, ?_⟩
  show resAt 0 _ _ (.int .i64 (Int.ofNat n)) st1
  unfold resAt one1
  refine (uBb.2 (Or.inl ⟨rfl, ?_⟩))
  exact ⟨rfl, fun m hm e => by rw [tz_inj hn hm e]; rfl⟩
theorem onesX : allB 64 (fun k => uA0 (uAa .u64 (.ofNat (Nat.xor (uAc (uns (uEa .u64) 18446744073709551615)) (uAc (uns (uEa .u64) (ones k)))))) (tzX k)) = true := by kernel_rfl
theorem onesO : allB 64 (fun k => uA0 (uAa .u64 (.ofNat (Nat.lor (uAc (uns (uEa .u64) (ones k))) (uAc (uns (uEa .u64) (shlV .u64 1 (Int.ofNat k))))))) (ones (k + 1))) = true := by kernel_rfl
theorem onesN : allB 64 (fun k => not (uA0 (ones k) 18446744073709551615)) = true := by kernel_rfl
theorem onesH : allB2 64 (fun k n => cond (uA0 (uAa .u64 (.ofNat (Nat.land (uAc (uns (uEa .u64) (shrV .u64 (ones k) (Int.ofNat n)))) (uAc (uns (uEa .u64) 1))))) 1) (Nat.blt n k) (Nat.ble k n)) = true := by kernel_rfl
structure SlOk (d r c : Int) (t a : Nat × Nat) (T A : List Int) (V : List (List Int)) : Prop where
 d1 : 1 ≤ d ∧ d ≤ 1024
 r1 : r = 60
 l : V.length ≤ 60
 c1 : c = V.length
 t1 : t = (1, 1)
 T1 : T = [ones V.length]
 a1 : a = (A.length, A.length)
 A1 : A = V.flatten
 v1 : ∀ v ∈ V, (v.length : Int) = d
theorem vchk_zero {v : List Int} {d : Int} (h : vchk v d = 0) : 1 ≤ d ∧ d ≤ 1024 ∧ (v.length : Int) = d := by
 unfold vchk at h; split at h
 ·cases h
 ·omega
theorem vchk_ne {v : List Int} {d : Int} (h : ¬ vchk v d = 0) (h1 : 1 ≤ d) (h2 : d ≤ 1024) : ¬ (v.length : Int) = d := fun e => h (by rw [vchk, if_neg (by omega)])
theorem flat_len {V : List (List Int)} {D : Nat} (h : ∀ v ∈ V, v.length = D) : V.flatten.length = V.length * D := by
 induction V with
 | nil => simp
 | cons v V ih => rw [List.flatten_cons, List.length_append, h v (by simp), ih (fun w hw => h w (by simp [hw])), List.length_cons, Nat.succ_mul, Nat.add_comm]
theorem wmulN {a b : Nat} (h : a * b < 4611686018427387904) : uAa .i64 (Int.mul (a : Int) (b : Int)) = ((a * b : Nat) : Int) := by
 rw [show Int.mul (a : Int) (b : Int) = ((a * b : Nat) : Int) from rfl, w64 (by omega) (by omega)]
theorem all_set {A u : List Int} {D : Nat} (hu : u.length = D) : setAt A.length (u.flatMap Ei16.f) (A.flatMap Ei16.f ++ repl D [AV.int .i16 0]) = (A ++ u).flatMap Ei16.f := by
 rw [show repl D [AV.int .i16 0] = (List.replicate D (0 : Int)).flatMap Ei16.f from repl_enc (E := Ei16) (x := 0) D, ← List.flatMap_append, setAt_app (E := Ei16) rfl (by simp; omega)]
 simp [hu]
theorem repl_scal (D : Nat) : uAm (repl D [AV.int .i16 0]) = true := by
 rw [show repl D [AV.int .i16 0] = (List.replicate D (0 : Int)).flatMap Ei16.f from repl_enc (E := Ei16) (x := 0) D]; exact Enc.fscal Ei16 _
def putS (d : Int) (V : List (List Int)) (v : List Int) : List (List Int) := if (v.length : Int) = d then V ++ [v] else V
abbrev qSlott1 := Int × Int × Int × (Nat × Nat) × (Nat × Nat) × Unit × Unit
abbrev leastLZ := (Unit × (Nat × Nat) × Int × Int × Unit) × (qSlott1 × (List Int) × (List Int) × Unit)
noncomputable def leastLSl : Tel (Unit × (Nat × Nat) × Int × Int × Unit) := .cons 0 (.ptr 0) (.cons 8 (.slq 1 1) (.ji 9 (.ji 10 (.nil))))
noncomputable abbrev qSlotr0 := Bk.row (.ji 0 (.ji 1 (.ji 2 (.cons 3 (.slq 1 1) (.cons 4 (.slq 2 1) (.cons 5 (.nilS) (.nil)))))))
noncomputable def leastLBl : BTel (qSlott1 × (List Int) × (List Int) × Unit) := .cons qSlotr0 (.cons (.rows Eu64 89) (.cons (.rows Ei16 27) (.nil)))
noncomputable def leastLFs : List (LForm leastLZ) := [⟨_, _, leastLSl, leastLBl, fun x y => (x, y)⟩]
abbrev uDh := qSlott1 × (List Int) × (List Int) × Unit
noncomputable def leastLAlts (R0 : leastLZ → (Unit × Unit) → uDh → Prop) (R1 : leastLZ → qSlott4 → uDh → Prop) : List (Alt leastLZ) := [⟨.exit 0, Unit × Unit, uDh, .cons 0 (.ptr 0) (.nil), .cons qSlotr0 (.cons (.rows Eu64 89) (.cons (.rows Ei16 27) (.nil))), R0⟩, ⟨.ret, Int × Unit, uDh, .ji 2 (.nil), .cons qSlotr0 (.cons (.rows Eu64 89) (.cons (.rows Ei16 27) (.nil))), R1⟩]
theorem leastLForm (gl : Tr (List AV)) (t8 : Nat × Nat) (n i d r c : Int) (t a : Nat × Nat) (T A : List Int) (N : leastLZ → Prop) (R0 : leastLZ → (Unit × Unit) → uDh → Prop) (R1 : leastLZ → qSlott4 → uDh → Prop) : ((runW PP (KLX [(55, tzK gl)] [] [89, 27] [] []) 100).code none 32 30 (uAd PP 32 2) (mkT (leastLSl.av id ((), t8, n, i, ()))) [] (stL false (leastLBl.obs id ((d, r, c, t, a, (), ()), T, A, ())) gl) (uCh 3 leastLFs (leastLAlts R0 R1) (((), t8, n, i, ()), (d, r, c, t, a, (), ()), T, A, ()) N)) = ( ifp (!uAf n i) (uAp i t8.1 ∧ ∃ x : Int, nth (Nat.add 0 ((uAc i).mul 1)) (T.flatMap Eu64.f) = some (AV.int .u64 x) ∧ ifp (!uA0 x 18446744073709551615) (gl = gl ∧ true = true ∧ tzPre ((uAa .u64 (Int.ofNat ((uAc (uns (uEa .u64) 18446744073709551615)).xor (uAc (uns (uEa .u64) x)))), ()), ()) ∧ (∀ c_1 d_1, tzR0 ((uAa .u64 (Int.ofNat ((uAc (uns (uEa .u64) 18446744073709551615)).xor (uAc (uns (uEa .u64) x)))), ()), ()) c_1 d_1 → True ∧ ∃ l, Sa Eu64 T l ∧ ∃ l_1, Sa Ei16 A l_1 ∧ true = true ∧ R1 (((), t8, n, i, ()), (d, r, c, t, a, (), ()), T, A, ()) (uAa .i64 ((uAa .i64 (i.mul 64)).add c_1.1), ()) ((d, r, c, t, a, (), ()), l, l_1, ())) ∧ True) (True ∧ ∃ l, Sa Eu64 T l ∧ ∃ l_1, Sa Ei16 A l_1 ∧ true = true ∧ N (((), t8, n, uAa .i64 (i.add 1), ()), (d, r, c, t, a, (), ()), l, l_1, ()))) (True ∧ ∃ l, Sa Eu64 T l ∧ ∃ l_1, Sa Ei16 A l_1 ∧ true = true ∧ R0 (((), t8, n, i, ()), (d, r, c, t, a, (), ()), T, A, ()) ((), ()) ((d, r, c, t, a, (), ()), l, l_1, ()))) := by kernel_rfl
def leastLInv : leastLZ → Prop := fun (((), t8, n, i, ()), (d, r, c, t, a, (), ()), T, A, ()) => ∃ k : Nat, k < 64 ∧ T = [ones k] ∧ t8 = (1, 1) ∧ n = 1 ∧ i = 0
def leastLMu : leastLZ → Nat := fun (((), t8, n, i, ()), (d, r, c, t, a, (), ()), T, A, ()) => 0
def leastLR0 : leastLZ → (Unit × Unit) → uDh → Prop := fun (((), t8, n, i, ()), (d, r, c, t, a, (), ()), T, A, ()) _ _ => False
def leastLR1 : leastLZ → qSlott4 → uDh → Prop := fun (((), t8, n, i, ()), (d, r, c, t, a, (), ()), T, A, ()) (q, _) ((d2, r2, c2, t2, a2, _), T2, A2, _) => d2 = d ∧ r2 = r ∧ c2 = c ∧ t2 = t ∧ a2 = a ∧ T2 = T ∧ A2 = A ∧ ∀ k : Nat, k < 64 → T = [ones k] → q = k
noncomputable def leastLC (gl : Tr (List AV)) : uB5 := loopCg gl 3 leastLFs (leastLAlts leastLR0 leastLR1) leastLInv
theorem leastLStep {gl : Tr (List AV)} (hg : GlOk gl) : uA3 PP (KLX [(55, tzK gl)] [] [89, 27] [] []) 100 32 30 (uAd PP 32 2) 3 false leastLFs (leastLAlts leastLR0 leastLR1) leastLInv leastLMu ⟨_, _, leastLSl, leastLBl, fun x y => (x, y)⟩ gl := by
 intro x y hz
 obtain ⟨_, t8, n, i, _⟩ := x
 obtain ⟨⟨d, r, c, t, a, _, _⟩, T, A, _⟩ := y
 refine (leastLForm gl t8 n i d r c t a T A _ _ _).mpr ?_
 obtain ⟨k, hk, rfl, rfl, rfl, rfl⟩ := hz
 rw [uAe, if_pos (by decide)]
 have hx := uBj.1 (allB_at onesX hk)
 have hn : ¬ ones k = 18446744073709551615 := fun e => by
  have := allB_at onesN hk
  rw [show uA0 (ones k) 18446744073709551615 = true from uBj.2 e] at this; cases this
 refine ⟨⟨by decide, by decide⟩, ones k, rfl, ?_⟩
 rw [uBu, if_neg hn]
 refine ⟨rfl, rfl, ⟨k, hk, hx⟩, fun c1 d1 hr => ?_, trivial⟩
 obtain ⟨q, _⟩ := c1
 have hq := hr k hk hx
 obtain rfl : q = k := hq
 refine ⟨trivial, [ones k], rfl, A, rfl, rfl, rfl, rfl, rfl, rfl, rfl, rfl, rfl, fun m hm e => ?_⟩
 have e' : k = m := ones_inj hk hm (List.cons.inj e).1
 show uAa .i64 (Int.add (uAa .i64 (Int.mul 0 64)) (k : Int)) = m
 rw [show uAa .i64 (Int.mul 0 64) = 0 from rfl, wadd (by omega) (by omega), e']; omega
theorem leastLOk {gl : Tr (List AV)} (hg : GlOk gl) : uAs PP 32 30 (.loop (uAd PP 32 2)) (leastLC gl) := loop_okg leastLMu hg.fr mixed (uDp (uAi (tzCc hg) (uAq))) rfl (uAo (leastLStep hg) (uAx))
abbrev leastZ := (Unit × Unit) × uDh
noncomputable def leastT : Tel (Unit × Unit) := .cons 0 (.ptr 0) (.nil)
noncomputable def leastBl : BTel uDh := .cons qSlotr0 (.cons (.rows Eu64 89) (.cons (.rows Ei16 27) (.nil)))
noncomputable def leastRes (R0 : leastZ → qSlott4 → uDh → Prop) : List (Res leastZ) := [⟨Int × Unit, uDh, .ji 0 (.nil), .cons qSlotr0 (.cons (.rows Eu64 89) (.cons (.rows Ei16 27) (.nil))), R0⟩]
theorem leastFn (gl : Tr (List AV)) (d r c : Int) (t a : Nat × Nat) (T A : List Int) (R0 : leastZ → qSlott4 → uDh → Prop) : (uA2 PP (runW PP (KLX [] [(32, [(2, leastLC gl)])] [89, 27] [] []) 200) 32 (leastT.cells id ((), ())) (stL false (leastBl.obs id ((d, r, c, t, a, (), ()), T, A, ())) gl) (fun v st => uA1 3 (((), ()), (d, r, c, t, a, (), ()), T, A, ()) v st (leastRes R0))) = ( uAs PP 32 30 (uAd PP 32 2).loop (leastLC gl) ∧ gl = gl ∧ True ∧ True ∧ ∃ l, Sa Eu64 T l ∧ ∃ l_1, Sa Ei16 A l_1 ∧ true = true ∧ leastLInv (((), t, Int.ofNat t.1, 0, ()), (d, r, c, t, a, (), ()), l, l_1, ()) ∧ (∀ c_1 d_1, leastLR0 (((), t, Int.ofNat t.1, 0, ()), (d, r, c, t, a, (), ()), l, l_1, ()) c_1 d_1 → ∃ l, Sa Eu64 d_1.2.1 l ∧ ∃ l_2, Sa Ei16 d_1.2.2.1 l_2 ∧ true = true ∧ R0 (((), ()), (d, r, c, t, a, (), ()), T, A, ()) (uAa .i64 ((Int.ofNat d_1.1.2.2.2.1.1).mul 64), ()) ((d_1.1.1, d_1.1.2.1, d_1.1.2.2.1, d_1.1.2.2.2.1, d_1.1.2.2.2.2.1, (), ()), l, l_2, ())) ∧ (∀ c_1 d_1, leastLR1 (((), t, Int.ofNat t.1, 0, ()), (d, r, c, t, a, (), ()), l, l_1, ()) c_1 d_1 → ∃ l, Sa Eu64 d_1.2.1 l ∧ ∃ l_2, Sa Ei16 d_1.2.2.1 l_2 ∧ true = true ∧ R0 (((), ()), (d, r, c, t, a, (), ()), T, A, ()) (c_1.1, ()) ((d_1.1.1, d_1.1.2.1, d_1.1.2.2.1, d_1.1.2.2.2.1, d_1.1.2.2.2.2.1, (), ()), l, l_2, ())) ∧ True) := by kernel_rfl
def leastPre : leastZ → Prop := fun (((), ()), (d, r, c, t, a, (), ()), T, A, ()) => t = (1, 1) ∧ ∃ k : Nat, k < 64 ∧ T = [ones k]
def leastR0 : leastZ → qSlott4 → uDh → Prop := fun (((), ()), (d, r, c, t, a, (), ()), T, A, ()) (q, _) ((d2, r2, c2, t2, a2, _), T2, A2, _) => d2 = d ∧ r2 = r ∧ c2 = c ∧ t2 = t ∧ a2 = a ∧ T2 = T ∧ A2 = A ∧ ∀ k : Nat, k < 64 → T = [ones k] → q = k
noncomputable def leastK (gl : Tr (List AV)) : uA6 := callCg gl 3 leastT leastBl leastPre (leastRes leastR0)
theorem leastStep {gl : Tr (List AV)} (hg : GlOk gl) (z : leastZ) (hp : leastPre z) : uA2 PP (runW PP (KLX [] [(32, [(2, leastLC gl)])] [89, 27] [] []) 200) 32 (leastT.cells id z.1) (stL false (leastBl.obs id z.2) gl) (fun v st => uA1 3 z v st (leastRes leastR0)) := by
 obtain ⟨⟨_, _⟩, ⟨⟨d, r, c, t, a, _, _⟩, T, A, _⟩⟩ := z
 refine (leastFn gl d r c t a T A _).mpr ?_
 obtain ⟨rfl, k, hk, rfl⟩ := hp
 refine ⟨leastLOk hg, rfl, trivial, trivial, [ones k], rfl, A, rfl, rfl, ⟨k, hk, rfl, rfl, rfl, rfl⟩, fun _ _ h => h.elim, fun c1 d1 hr => ?_, trivial⟩
 obtain ⟨q, _⟩ := c1
 obtain ⟨⟨d2, r2, c2, t2, a2, _, _⟩, T2, A2, _⟩ := d1
 exact ⟨T2, rfl, A2, rfl, rfl, hr⟩
theorem leastCc {gl : Tr (List AV)} (hg : GlOk gl) : CcOk PP 32 (leastK gl) := call_okg hg.fr mixed (uDp (uAq)) rfl (leastStep hg)
abbrev qSlott0 := Unit × (List Int) × Unit
abbrev put1Z := qSlott0 × uDh
noncomputable def put1T : Tel qSlott0 := .cons 0 (.ptr 0) (.cons 1 (.lst Ei16) (.nil))
noncomputable def put1Bl : BTel uDh := .cons qSlotr0 (.cons (.rows Eu64 89) (.cons (.rows Ei16 27) (.nil)))
abbrev qSlot1 := Int × Int × Unit
noncomputable def put1Res (R0 : put1Z → qSlot1 → uDh → Prop) : List (Res put1Z) := [⟨Int × Int × Unit, uDh, .ji 0 (.ji 1 (.nil)), .cons qSlotr0 (.cons (.rows Eu64 89) (.cons (.rows Ei16 27) (.nil))), R0⟩]
theorem put1Fn (gl : Tr (List AV)) (u : List Int) (d r c : Int) (t a : Nat × Nat) (T A : List Int) (R0 : put1Z → qSlot1 → uDh → Prop) : (uA2 PP (runW PP (KLY [(31, chkK), (32, leastK gl)] [] [89, 27] [] [] [(16, [9, 12])]) 200) 16 (put1T.cells id ((), u, ())) (stL false (put1Bl.obs id ((d, r, c, t, a, (), ()), T, A, ())) gl) (fun v st => uA1 1 (((), u, ()), (d, r, c, t, a, (), ()), T, A, ()) v st (put1Res R0))) = ( ∃ l, Wv Ei16 u l ∧ chkPre (l, d, ()) ∧ ifp (!uA0 (vchk l d) 0) (∃ l_1, Sa Eu64 T l_1 ∧ ∃ l_2, Sa Ei16 A l_2 ∧ true = true ∧ R0 (((), u, ()), (d, r, c, t, a, (), ()), T, A, ()) (0, vchk l d, ()) ((d, r, c, t, a, (), ()), l_1, l_2, ())) (gl = gl ∧ ∃ l, Sa Eu64 T l ∧ ∃ l_1, Sa Ei16 A l_1 ∧ true = true ∧ leastPre (((), ()), (d, r, c, t, a, (), ()), l, l_1, ()) ∧ (∀ c_1 d_1, leastR0 (((), ()), (d, r, c, t, a, (), ()), l, l_1, ()) c_1 d_1 → ifp (uAf d_1.1.2.1 c_1.1) (∃ l, Sa Eu64 d_1.2.1 l ∧ ∃ l_2, Sa Ei16 d_1.2.2.1 l_2 ∧ true = true ∧ R0 (((), u, ()), (d, r, c, t, a, (), ()), T, A, ()) (0, 7, ()) ((d_1.1.1, d_1.1.2.1, d_1.1.2.2.1, d_1.1.2.2.2.1, d_1.1.2.2.2.2.1, (), ()), l, l_2, ())) ((64 : Int) ≠ 0 ∧ uAa .i64 (c_1.1.tdiv 64) ≠ Int.ofNat d_1.1.2.2.2.1.1 ∧ True ∧ True ∧ True ∧ (0 : Int) < uAa .i64 ((uAa .i64 ((uAa .i64 (c_1.1.add 1)).mul d_1.1.1)).sub (Int.ofNat d_1.1.2.2.2.2.1.1)) ∧ (0 : Int) ≤ uAa .i64 ((uAa .i64 ((uAa .i64 (c_1.1.add 1)).mul d_1.1.1)).sub (Int.ofNat d_1.1.2.2.2.2.1.1)) ∧ uAa .i64 ((uAa .i64 ((uAa .i64 (c_1.1.add 1)).mul d_1.1.1)).sub (Int.ofNat d_1.1.2.2.2.2.1.1)) ≤ 16777216 ∧ roomy (uAc (uAa .i64 ((uAa .i64 ((uAa .i64 (c_1.1.add 1)).mul d_1.1.1)).sub (Int.ofNat d_1.1.2.2.2.2.1.1)))) 2 = true ∧ ifp (uAm (repl (uAc (uAa .i64 ((uAa .i64 ((uAa .i64 (c_1.1.add 1)).mul d_1.1.1)).sub (Int.ofNat d_1.1.2.2.2.2.1.1)))) [AV.int .i16 0]) && true) ((d_1.1.2.2.2.2.1.2 < d_1.1.2.2.2.2.1.1.add (uAc (uAa .i64 ((uAa .i64 ((uAa .i64 (c_1.1.add 1)).mul d_1.1.1)).sub (Int.ofNat d_1.1.2.2.2.2.1.1)))) ∧ 0 = 0 ∧ d_1.1.2.2.2.2.1.1.mul 1 = (List.flatMap Ei16.f d_1.2.2.1).length ∧ roomy (d_1.1.2.2.2.2.1.1.add (uAc (uAa .i64 ((uAa .i64 ((uAa .i64 (c_1.1.add 1)).mul d_1.1.1)).sub (Int.ofNat d_1.1.2.2.2.2.1.1))))) 2 = true ∧ (64 : Int) ≠ 0 ∧ uAp (uAa .i64 (c_1.1.tdiv 64)) d_1.1.2.2.2.1.1 ∧ ∃ x : Int, nth (Nat.add 0 ((uAc (uAa .i64 (c_1.1.tdiv 64))).mul 1)) (List.flatMap Eu64.f d_1.2.1) = some (AV.int .u64 x) ∧ (64 : Int) ≠ 0 ∧ (0 : Int) ≤ c_1.1.tmod 64 ∧ uAp (uAa .i64 (c_1.1.tdiv 64)) d_1.1.2.2.2.1.1 ∧ (Nat.add 0 ((uAc (uAa .i64 (c_1.1.tdiv 64))).mul 1)).add 1 ≤ (List.flatMap Eu64.f d_1.2.1).length ∧ True ∧ True ∧ (0 : Int) ≤ uAa .i64 ((uAa .i64 (c_1.1.add 1)).mul d_1.1.1) ∧ uAa .i64 ((uAa .i64 (c_1.1.add 1)).mul d_1.1.1) ≤ ↑(d_1.1.2.2.2.2.1.1.add (uAc (uAa .i64 ((uAa .i64 ((uAa .i64 (c_1.1.add 1)).mul d_1.1.1)).sub (Int.ofNat d_1.1.2.2.2.2.1.1))))) ∧ (0 : Int) ≤ uAa .i64 ((uAa .i64 (c_1.1.add 1)).mul d_1.1.1) ∧ uAa .i64 ((uAa .i64 (c_1.1.add 1)).mul d_1.1.1) ≤ ↑(uAc (uAa .i64 ((uAa .i64 (c_1.1.add 1)).mul d_1.1.1))) ∧ (0 : Int) ≤ uAa .i64 (c_1.1.mul d_1.1.1) ∧ uAa .i64 (c_1.1.mul d_1.1.1) ≤ ↑(uAc (uAa .i64 ((uAa .i64 (c_1.1.add 1)).mul d_1.1.1))) ∧ True ∧ True ∧ True ∧ True ∧ True ∧ (minN u.length ((uAc (uAa .i64 ((uAa .i64 (c_1.1.add 1)).mul d_1.1.1))).sub (uAc (uAa .i64 (c_1.1.mul d_1.1.1))))).mul 1 ≤ (u.flatMap Ei16.f).length ∧ ifp (uAm (List.take ((minN u.length ((uAc (uAa .i64 ((uAa .i64 (c_1.1.add 1)).mul d_1.1.1))).sub (uAc (uAa .i64 (c_1.1.mul d_1.1.1))))).mul 1) (u.flatMap Ei16.f))) ((Nat.add 0 ((uAc (uAa .i64 (c_1.1.mul d_1.1.1))).mul 1)).add (List.take ((minN u.length ((uAc (uAa .i64 ((uAa .i64 (c_1.1.add 1)).mul d_1.1.1))).sub (uAc (uAa .i64 (c_1.1.mul d_1.1.1))))).mul 1) (u.flatMap Ei16.f)).length ≤ (List.flatMap Ei16.f d_1.2.2.1 ++ repl (uAc (uAa .i64 ((uAa .i64 ((uAa .i64 (c_1.1.add 1)).mul d_1.1.1)).sub (Int.ofNat d_1.1.2.2.2.2.1.1)))) [AV.int .i16 0]).length ∧ ∃ (l : List Int), setAt (Nat.add 0 ((uAc (uAa .i64 (c_1.1.tdiv 64))).mul 1)) [AV.int .u64 (uAa .u64 (Int.ofNat ((uAc (uns (uEa .u64) x)).lor (uAc (uns (uEa .u64) (shlV .u64 1 (c_1.1.tmod 64)))))))] (List.flatMap Eu64.f d_1.2.1) = l.flatMap Eu64.f ∧ ∃ (l_2 : List Int), setAt (Nat.add 0 ((uAc (uAa .i64 (c_1.1.mul d_1.1.1))).mul 1)) (List.take ((minN u.length ((uAc (uAa .i64 ((uAa .i64 (c_1.1.add 1)).mul d_1.1.1))).sub (uAc (uAa .i64 (c_1.1.mul d_1.1.1))))).mul 1) (u.flatMap Ei16.f)) (List.flatMap Ei16.f d_1.2.2.1 ++ repl (uAc (uAa .i64 ((uAa .i64 ((uAa .i64 (c_1.1.add 1)).mul d_1.1.1)).sub (Int.ofNat d_1.1.2.2.2.2.1.1)))) [AV.int .i16 0]) = l_2.flatMap Ei16.f ∧ true = true ∧ R0 (((), u, ()), (d, r, c, t, a, (), ()), T, A, ()) (c_1.1, 0, ()) ((d_1.1.1, d_1.1.2.1, uAa .i64 (d_1.1.2.2.1.add 1), d_1.1.2.2.2.1, (d_1.1.2.2.2.2.1.1.add (uAc (uAa .i64 ((uAa .i64 ((uAa .i64 (c_1.1.add 1)).mul d_1.1.1)).sub (Int.ofNat d_1.1.2.2.2.2.1.1)))), d_1.1.2.2.2.2.1.1.add (uAc (uAa .i64 ((uAa .i64 ((uAa .i64 (c_1.1.add 1)).mul d_1.1.1)).sub (Int.ofNat d_1.1.2.2.2.2.1.1))))), (), ()), l, l_2, ())) False) ∨ d_1.1.2.2.2.2.1.1.add (uAc (uAa .i64 ((uAa .i64 ((uAa .i64 (c_1.1.add 1)).mul d_1.1.1)).sub (Int.ofNat d_1.1.2.2.2.2.1.1)))) ≤ d_1.1.2.2.2.2.1.2 ∧ uAc (uAa .i64 ((uAa .i64 ((uAa .i64 (c_1.1.add 1)).mul d_1.1.1)).sub (Int.ofNat d_1.1.2.2.2.2.1.1))) ≠ 0 ∧ (Nat.add 0 (d_1.1.2.2.2.2.1.1.mul 1)).add (repl (uAc (uAa .i64 ((uAa .i64 ((uAa .i64 (c_1.1.add 1)).mul d_1.1.1)).sub (Int.ofNat d_1.1.2.2.2.2.1.1)))) [AV.int .i16 0]).length ≤ (List.flatMap Ei16.f d_1.2.2.1).length ∧ (64 : Int) ≠ 0 ∧ uAp (uAa .i64 (c_1.1.tdiv 64)) d_1.1.2.2.2.1.1 ∧ ∃ x : Int, nth (Nat.add 0 ((uAc (uAa .i64 (c_1.1.tdiv 64))).mul 1)) (List.flatMap Eu64.f d_1.2.1) = some (AV.int .u64 x) ∧ (64 : Int) ≠ 0 ∧ (0 : Int) ≤ c_1.1.tmod 64 ∧ uAp (uAa .i64 (c_1.1.tdiv 64)) d_1.1.2.2.2.1.1 ∧ (Nat.add 0 ((uAc (uAa .i64 (c_1.1.tdiv 64))).mul 1)).add 1 ≤ (List.flatMap Eu64.f d_1.2.1).length ∧ True ∧ True ∧ (0 : Int) ≤ uAa .i64 ((uAa .i64 (c_1.1.add 1)).mul d_1.1.1) ∧ uAa .i64 ((uAa .i64 (c_1.1.add 1)).mul d_1.1.1) ≤ ↑d_1.1.2.2.2.2.1.2 ∧ (0 : Int) ≤ uAa .i64 ((uAa .i64 (c_1.1.add 1)).mul d_1.1.1) ∧ uAa .i64 ((uAa .i64 (c_1.1.add 1)).mul d_1.1.1) ≤ ↑(uAc (uAa .i64 ((uAa .i64 (c_1.1.add 1)).mul d_1.1.1))) ∧ (0 : Int) ≤ uAa .i64 (c_1.1.mul d_1.1.1) ∧ uAa .i64 (c_1.1.mul d_1.1.1) ≤ ↑(uAc (uAa .i64 ((uAa .i64 (c_1.1.add 1)).mul d_1.1.1))) ∧ True ∧ True ∧ True ∧ True ∧ True ∧ (minN u.length ((uAc (uAa .i64 ((uAa .i64 (c_1.1.add 1)).mul d_1.1.1))).sub (uAc (uAa .i64 (c_1.1.mul d_1.1.1))))).mul 1 ≤ (u.flatMap Ei16.f).length ∧ ifp (uAm (List.take ((minN u.length ((uAc (uAa .i64 ((uAa .i64 (c_1.1.add 1)).mul d_1.1.1))).sub (uAc (uAa .i64 (c_1.1.mul d_1.1.1))))).mul 1) (u.flatMap Ei16.f))) ((Nat.add 0 ((uAc (uAa .i64 (c_1.1.mul d_1.1.1))).mul 1)).add (List.take ((minN u.length ((uAc (uAa .i64 ((uAa .i64 (c_1.1.add 1)).mul d_1.1.1))).sub (uAc (uAa .i64 (c_1.1.mul d_1.1.1))))).mul 1) (u.flatMap Ei16.f)).length ≤ (setAt (Nat.add 0 (d_1.1.2.2.2.2.1.1.mul 1)) (repl (uAc (uAa .i64 ((uAa .i64 ((uAa .i64 (c_1.1.add 1)).mul d_1.1.1)).sub (Int.ofNat d_1.1.2.2.2.2.1.1)))) [AV.int .i16 0]) (List.flatMap Ei16.f d_1.2.2.1)).length ∧ ∃ (l : List Int), setAt (Nat.add 0 ((uAc (uAa .i64 (c_1.1.tdiv 64))).mul 1)) [AV.int .u64 (uAa .u64 (Int.ofNat ((uAc (uns (uEa .u64) x)).lor (uAc (uns (uEa .u64) (shlV .u64 1 (c_1.1.tmod 64)))))))] (List.flatMap Eu64.f d_1.2.1) = l.flatMap Eu64.f ∧ ∃ (l_2 : List Int), setAt (Nat.add 0 ((uAc (uAa .i64 (c_1.1.mul d_1.1.1))).mul 1)) (List.take ((minN u.length ((uAc (uAa .i64 ((uAa .i64 (c_1.1.add 1)).mul d_1.1.1))).sub (uAc (uAa .i64 (c_1.1.mul d_1.1.1))))).mul 1) (u.flatMap Ei16.f)) (setAt (Nat.add 0 (d_1.1.2.2.2.2.1.1.mul 1)) (repl (uAc (uAa .i64 ((uAa .i64 ((uAa .i64 (c_1.1.add 1)).mul d_1.1.1)).sub (Int.ofNat d_1.1.2.2.2.2.1.1)))) [AV.int .i16 0]) (List.flatMap Ei16.f d_1.2.2.1)) = l_2.flatMap Ei16.f ∧ true = true ∧ R0 (((), u, ()), (d, r, c, t, a, (), ()), T, A, ()) (c_1.1, 0, ()) ((d_1.1.1, d_1.1.2.1, uAa .i64 (d_1.1.2.2.1.add 1), d_1.1.2.2.2.1, (d_1.1.2.2.2.2.1.1.add (uAc (uAa .i64 ((uAa .i64 ((uAa .i64 (c_1.1.add 1)).mul d_1.1.1)).sub (Int.ofNat d_1.1.2.2.2.2.1.1)))), d_1.1.2.2.2.2.1.2), (), ()), l, l_2, ())) False) False)) ∧ True)) := by kernel_rfl
def put1Pre : put1Z → Prop := fun (((), u, ()), (d, r, c, t, a, (), ()), T, A, ()) => ∃ V, SlOk d r c t a T A V ∧ V.length < 60 ∧ V ≠ []
def put1R0 : put1Z → qSlot1 → uDh → Prop := fun (((), u, ()), (d, r, c, t, a, (), ()), T, A, ()) _ ((d2, r2, c2, t2, a2, _), T2, A2, _) => d2 = d ∧ ∀ V, SlOk d r c t a T A V → SlOk d r2 c2 t2 a2 T2 A2 (putS d V u)
noncomputable def put1K (gl : Tr (List AV)) : uA6 := callCg gl 1 put1T put1Bl put1Pre (put1Res put1R0)
theorem put1Step {gl : Tr (List AV)} (hg : GlOk gl) (z : put1Z) (hp : put1Pre z) : uA2 PP (runW PP (KLY [(31, chkK), (32, leastK gl)] [] [89, 27] [] [] [(16, [9, 12])]) 200) 16 (put1T.cells id z.1) (stL false (put1Bl.obs id z.2) gl) (fun v st => uA1 1 z v st (put1Res put1R0)) := by
 obtain ⟨⟨_, u, _⟩, ⟨⟨d, r, c, t, a, _, _⟩, T, A, _⟩⟩ := z
 refine (put1Fn gl u d r c t a T A _).mpr ?_
 obtain ⟨V, hV, hV60, hV0⟩ := hp
 refine ⟨u, Wk.refl _, trivial, ?_⟩
 rw [uBu]
 split
 ·rename_i h
  obtain ⟨h1, h2, hlen⟩ := vchk_zero h
  obtain ⟨_, rfl, hl, rfl, rfl, rfl, rfl, hA, hv⟩ := hV
  obtain ⟨D, rfl⟩ := Int.eq_ofNat_of_zero_le (show 0 ≤ d by omega)
  have hlen' : u.length = D := by omega
  have hAl : A.length = V.length * D := by rw [hA]; exact flat_len fun v hm => by have := hv v hm; omega
  refine ⟨rfl, [ones V.length], rfl, A, rfl, rfl, ⟨rfl, V.length, by omega, rfl⟩, fun c1 d1 hr => ?_, trivial⟩
  obtain ⟨q, _⟩ := c1
  obtain ⟨⟨d2, r2, c2, t2, a2, _, _⟩, T2, A2, _⟩ := d1
  obtain ⟨rfl, rfl, rfl, rfl, rfl, rfl, rfl, hq⟩ := hr
  obtain rfl : q = V.length := hq V.length (by omega) rfl
  dsimp only
  rw [uEg, if_neg (by omega)]
  have hD : V.length * D ≤ 60 * 1024 := Nat.mul_le_mul (by omega) (by omega)
  have hD2 : (V.length + 1) * D = V.length * D + D := Nat.succ_mul _ _
  have e1 : uAa .i64 (Int.add (V.length : Int) 1) = ((V.length + 1 : Nat) : Int) := uCb (by omega)
  have e2 : uAa .i64 (Int.mul ((V.length + 1 : Nat) : Int) (D : Int)) = (((V.length + 1) * D : Nat) : Int) := wmulN (by omega)
  have e3 : uAa .i64 (Int.mul (V.length : Int) (D : Int)) = ((V.length * D : Nat) : Int) := wmulN (by omega)
  have e4 : uAa .i64 (Int.sub (((V.length + 1) * D : Nat) : Int) (Int.ofNat A2.length)) = (D : Int) := by
   simp only [Int.ofNat_eq_natCast]; rw [wsub (by omega) (by omega)]; omega
  have e5 : uAa .i64 (Int.tdiv (V.length : Int) 64) = ((0 : Nat) : Int) := by
   rw [show Int.tdiv (V.length : Int) 64 = ((V.length / 64 : Nat) : Int) from rfl, show V.length / 64 = 0 by omega]; rfl
  have e6 : Int.tmod (V.length : Int) 64 = (V.length : Int) := by
   rw [show Int.tmod (V.length : Int) 64 = ((V.length % 64 : Nat) : Int) from rfl, Nat.mod_eq_of_lt (by omega)]
  simp only [e1, e2, e3, e4, e5, e6, uAt]
  have hA2 : (A2.flatMap Ei16.f).length = A2.length := by rw [Enc.flen Ei16 A2]; show A2.length * 1 = _; omega
  have hmin : minN u.length (Nat.sub ((V.length + 1) * D) (V.length * D)) = D := by rw [show Nat.sub ((V.length + 1) * D) (V.length * D) = D by show (V.length + 1) * D - V.length * D = D; omega, hlen', minN, show Nat.ble D D = true from ble_t (Nat.le_refl _), ifb_true]
  have htk : List.take (Nat.mul D 1) (u.flatMap Ei16.f) = u.flatMap Ei16.f := by rw [List.take_of_length_le (by rw [Enc.flen Ei16 u, hlen']; exact Nat.le_refl _)]
  simp only [hmin, htk]
  refine ⟨by decide, by decide, trivial, trivial, trivial, by omega, by omega, by omega, uAg (by omega) (by decide), ?_⟩
  rw [uAj (by rw [repl_scal]; rfl)]
  refine Or.inl ⟨by show A2.length < A2.length + D; omega, (by trivial), by rw [hA2]; exact Nat.mul_one _, uAg (by show A2.length + D ≤ _; omega) (by decide), by decide, ⟨by decide, by decide⟩, ones V.length, rfl, by decide, by omega, ⟨by decide, by decide⟩, Nat.le_refl _, trivial, trivial, ?_⟩
  have hs : (A2.flatMap Ei16.f ++ repl D [AV.int .i16 0]).length = A2.length + D := by
   rw [List.length_append, hA2, show repl D [AV.int .i16 0] = (List.replicate D (0 : Int)).flatMap Ei16.f from repl_enc (E := Ei16) (x := 0) D, Enc.flen, List.length_replicate]; show _ + D * 1 = _; omega
  have hu1 : (u.flatMap Ei16.f).length = D := by rw [Enc.flen Ei16 u, hlen']; exact Nat.mul_one _
  refine ⟨by omega, by show _ ≤ ((A2.length + D : Nat) : Int); omega, by omega, by omega, by omega, by omega, trivial, trivial, trivial, trivial, trivial, by rw [hu1]; show D * 1 ≤ D; omega, ?_⟩
  rw [uAj (Enc.fscal Ei16 u)]
  have ho := uBj.1 (allB_at onesO (show V.length < 64 by omega))
  refine ⟨by rw [hs, hu1]; show 0 + V.length * D * 1 + D ≤ _; omega, [ones (V.length + 1)], ?_, A2 ++ u, ?_, trivial, rfl, fun V' hV' => ?_⟩
  ·show [AV.int .u64 _] = [AV.int .u64 (ones (V.length + 1))]
   rw [← ho]; rfl
  ·rw [show Nat.add 0 (Nat.mul (V.length * D) 1) = A2.length by show 0 + V.length * D * 1 = _; omega, all_set hlen']
  ·have hc' : V.length = V'.length := by have := hV'.c1; omega
   rw [putS, if_pos hlen]
   refine ⟨hV'.d1, rfl, by simp; omega, by simp [hc'], rfl, by simp [hc'], ?_, by rw [hV'.A1]; simp, fun w hw => ?_⟩
   ·rw [List.length_append, hlen']; rfl
   ·rcases List.mem_append.1 hw with hw | hw
    ·exact hV'.v1 w hw
    ·simp at hw; rw [hw]; exact hlen
 ·rename_i h
  exact ⟨T, rfl, A, rfl, (by trivial), rfl, fun V hV => by rw [putS, if_neg (vchk_ne h hV.d1.1 hV.d1.2)]; exact hV⟩
theorem put1Cc {gl : Tr (List AV)} (hg : GlOk gl) : CcOk PP 16 (put1K gl) := call_okg hg.fr mixed (KLY_ok (uAi chkCc (uAi (leastCc hg) (uAq)))) rfl (put1Step hg)
abbrev qSlott2 := Int × Int × Int × Unit × Unit × Unit × Unit
abbrev put0Z := qSlott0 × (qSlott2 × Unit)
noncomputable def put0T : Tel qSlott0 := .cons 0 (.ptr 0) (.cons 1 (.lst Ei16) (.nil))
noncomputable def put0Bl : BTel (qSlott2 × Unit) := .cons (.row (.ji 0 (.ji 1 (.ji 2 (.cons 3 (.nilS) (.cons 4 (.nilS) (.cons 5 (.nilS) (.nil)))))))) (.nil)
abbrev qSlot2 := qSlott2 × Unit
noncomputable def put0Res (R0 : put0Z → qSlot1 → qSlot2 → Prop) (R1 : put0Z → qSlot1 → uDh → Prop) : List (Res put0Z) := [⟨Int × Int × Unit, qSlot2, .ji 0 (.ji 1 (.nil)), .cons (.row (.ji 0 (.ji 1 (.ji 2 (.cons 3 (.nilS) (.cons 4 (.nilS) (.cons 5 (.nilS) (.nil)))))))) (.nil), R0⟩, ⟨Int × Int × Unit, uDh, .ji 0 (.ji 1 (.nil)), .cons qSlotr0 (.cons (.rows Eu64 89) (.cons (.rows Ei16 27) (.nil))), R1⟩]
theorem put0Fn (u : List Int) (d r c : Int) (R0 : put0Z → qSlot1 → qSlot2 → Prop) (R1 : put0Z → qSlot1 → uDh → Prop) : (uA2 PP (runW PP (KLY [(31, chkK)] [] [89, 27] [] [] [(16, [12])]) 200) 16 (put0T.cells id ((), u, ())) (stL false (put0Bl.obs id ((d, r, c, (), (), (), ()), ()))) (fun v st => uA1 1 (((), u, ()), (d, r, c, (), (), (), ()), ()) v st (put0Res R0 R1))) = ( ∃ l, Wv Ei16 u l ∧ chkPre (l, d, ()) ∧ ifp (!uA0 (vchk l d) 0) (true = true ∧ R0 (((), u, ()), (d, r, c, (), (), (), ()), ()) (0, vchk l d, ()) ((d, r, c, (), (), (), ()), ()) ∨ False) (ifp (uAf r 0) (true = true ∧ R0 (((), u, ()), (d, r, c, (), (), (), ()), ()) (0, 7, ()) ((d, r, c, (), (), (), ()), ()) ∨ False) ((64 : Int) ≠ 0 ∧ 1 ≤ 1 ∧ 1 ≠ 0 ∧ true = true ∧ True ∧ True ∧ True ∧ (0 : Int) < uAa .i64 ((uAa .i64 ((uAa .i64 ((uAa .i64 (Int.mul 0 64)).add 1)).mul d)).sub 0) ∧ (0 : Int) ≤ uAa .i64 ((uAa .i64 (Int.mul 1 d)).sub 0) ∧ uAa .i64 ((uAa .i64 (Int.mul 1 d)).sub 0) ≤ 16777216 ∧ roomy (uAc (uAa .i64 ((uAa .i64 ((uAa .i64 ((uAa .i64 (Int.mul 0 64)).add 1)).mul d)).sub 0))) 2 = true ∧ ifp (uAm (repl (uAc (uAa .i64 ((uAa .i64 ((uAa .i64 ((uAa .i64 (Int.mul 0 64)).add 1)).mul d)).sub 0))) [AV.int .i16 0]) && true) (uAc (uAa .i64 ((uAa .i64 ((uAa .i64 ((uAa .i64 (Int.mul 0 64)).add 1)).mul d)).sub 0)) ≠ 0 ∧ roomy (uAc (uAa .i64 ((uAa .i64 ((uAa .i64 ((uAa .i64 (Int.mul 0 64)).add 1)).mul d)).sub 0))) 2 = true ∧ (64 : Int) ≠ 0 ∧ uAp (uAa .i64 ((uAa .i64 (Int.mul 0 64)).tdiv 64)) 1 ∧ ∃ x : Int, some (AV.int .u64 0) = some (AV.int .u64 x) ∧ (64 : Int) ≠ 0 ∧ (0 : Int) ≤ (uAa .i64 (Int.mul 0 64)).tmod 64 ∧ uAp (uAa .i64 ((uAa .i64 (Int.mul 0 64)).tdiv 64)) 1 ∧ 1 ≤ 1 ∧ True ∧ True ∧ (0 : Int) ≤ uAa .i64 (Int.mul 1 d) ∧ uAa .i64 (Int.mul 1 d) ≤ ↑(uAc (uAa .i64 ((uAa .i64 ((uAa .i64 ((uAa .i64 (Int.mul 0 64)).add 1)).mul d)).sub 0))) ∧ (0 : Int) ≤ uAa .i64 (Int.mul 1 d) ∧ uAa .i64 (Int.mul 1 d) ≤ ↑(uAc (uAa .i64 ((uAa .i64 ((uAa .i64 (Int.mul 0 64)).add 1)).mul d))) ∧ (0 : Int) ≤ uAa .i64 (Int.mul 0 d) ∧ uAa .i64 (Int.mul 0 d) ≤ ↑(uAc (uAa .i64 ((uAa .i64 ((uAa .i64 (Int.mul 0 64)).add 1)).mul d))) ∧ True ∧ True ∧ True ∧ True ∧ True ∧ (minN u.length ((uAc (uAa .i64 ((uAa .i64 ((uAa .i64 (Int.mul 0 64)).add 1)).mul d))).sub (uAc (uAa .i64 ((uAa .i64 (Int.mul 0 64)).mul d))))).mul 1 ≤ (u.flatMap Ei16.f).length ∧ ifp (uAm (List.take ((minN u.length ((uAc (uAa .i64 ((uAa .i64 ((uAa .i64 (Int.mul 0 64)).add 1)).mul d))).sub (uAc (uAa .i64 ((uAa .i64 (Int.mul 0 64)).mul d))))).mul 1) (u.flatMap Ei16.f))) ((Nat.add 0 ((uAc (uAa .i64 ((uAa .i64 (Int.mul 0 64)).mul d))).mul 1)).add (List.take ((minN u.length ((uAc (uAa .i64 ((uAa .i64 ((uAa .i64 (Int.mul 0 64)).add 1)).mul d))).sub (uAc (uAa .i64 ((uAa .i64 (Int.mul 0 64)).mul d))))).mul 1) (u.flatMap Ei16.f)).length ≤ (repl (uAc (uAa .i64 ((uAa .i64 ((uAa .i64 ((uAa .i64 (Int.mul 0 64)).add 1)).mul d)).sub 0))) [AV.int .i16 0]).length ∧ (False ∨ ∃ (l : List Int), setAt 0 [AV.int .u64 (uAa .u64 (Int.ofNat ((uAc (uns (uEa .u64) x)).lor (uAc (uns (uEa .u64) (shlV .u64 1 ((uAa .i64 (Int.mul 0 64)).tmod 64)))))))] [AV.int .u64 0] = l.flatMap Eu64.f ∧ ∃ (l_1 : List Int), setAt (Nat.add 0 ((uAc (uAa .i64 ((uAa .i64 (Int.mul 0 64)).mul d))).mul 1)) (List.take ((minN u.length ((uAc (uAa .i64 ((uAa .i64 ((uAa .i64 (Int.mul 0 64)).add 1)).mul d))).sub (uAc (uAa .i64 ((uAa .i64 (Int.mul 0 64)).mul d))))).mul 1) (u.flatMap Ei16.f)) (repl (uAc (uAa .i64 ((uAa .i64 ((uAa .i64 ((uAa .i64 (Int.mul 0 64)).add 1)).mul d)).sub 0))) [AV.int .i16 0]) = l_1.flatMap Ei16.f ∧ true = true ∧ R1 (((), u, ()), (d, r, c, (), (), (), ()), ()) (0, 0, ()) ((d, r, uAa .i64 (c.add 1), (1, 1), (uAc (uAa .i64 ((uAa .i64 ((uAa .i64 ((uAa .i64 (Int.mul 0 64)).add 1)).mul d)).sub 0)), uAc (uAa .i64 ((uAa .i64 ((uAa .i64 ((uAa .i64 (Int.mul 0 64)).add 1)).mul d)).sub 0))), (), ()), l, l_1, ()))) False) False))) := by kernel_rfl
def put0Pre : put0Z → Prop := fun (((), u, ()), (d, r, c, (), (), (), ()), ()) => 1 ≤ d ∧ d ≤ 1024 ∧ r = 60 ∧ c = 0
def put0R0 : put0Z → qSlot1 → qSlot2 → Prop := fun (((), u, ()), (d, r, c, (), (), (), ()), ()) _ ((d2, r2, c2, _), _) => d2 = d ∧ r2 = r ∧ c2 = c ∧ (u.length : Int) ≠ d
def put0R1 : put0Z → qSlot1 → uDh → Prop := fun (((), u, ()), (d, r, c, (), (), (), ()), ()) _ ((d2, r2, c2, t2, a2, _), T2, A2, _) => d2 = d ∧ (u.length : Int) = d ∧ SlOk d r2 c2 t2 a2 T2 A2 [u]
noncomputable def put0K : uA6 := uD4 1 put0T put0Bl put0Pre (put0Res put0R0 put0R1)
theorem put0Step (z : put0Z) (hp : put0Pre z) : uA2 PP (runW PP (KLY [(31, chkK)] [] [89, 27] [] [] [(16, [12])]) 200) 16 (put0T.cells id z.1) (stL false (put0Bl.obs id z.2)) (fun v st => uA1 1 z v st (put0Res put0R0 put0R1)) := by
 obtain ⟨⟨_, u, _⟩, ⟨⟨d, r, c, _, _, _, _⟩, _⟩⟩ := z
 refine (put0Fn u d r c _ _).mpr ?_
 obtain ⟨h1, h2, rfl, rfl⟩ := hp
 refine ⟨u, Wk.refl _, trivial, ?_⟩
 rw [uBu]
 split
 ·rename_i h
  obtain ⟨_, _, hlen⟩ := vchk_zero h
  obtain ⟨D, rfl⟩ := Int.eq_ofNat_of_zero_le (show 0 ≤ d by omega)
  have hlen' : u.length = D := by omega
  rw [uEg, if_neg (by omega)]
  have e0 : uAa .i64 (Int.mul 0 64) = ((0 : Nat) : Int) := rfl
  have e1 : uAa .i64 (Int.add ((0 : Nat) : Int) 1) = ((1 : Nat) : Int) := rfl
  have e2 : uAa .i64 (Int.mul ((1 : Nat) : Int) (D : Int)) = ((D : Nat) : Int) := by rw [wmulN (by omega), Nat.one_mul]
  have e2' : uAa .i64 (Int.mul 1 (D : Int)) = ((D : Nat) : Int) := e2
  have e3 : uAa .i64 (Int.mul ((0 : Nat) : Int) (D : Int)) = ((0 : Nat) : Int) := by rw [wmulN (by omega), Nat.zero_mul]
  have e3' : uAa .i64 (Int.mul 0 (D : Int)) = ((0 : Nat) : Int) := e3
  have e4 : uAa .i64 (Int.sub (D : Int) 0) = (D : Int) := by rw [wsub (by omega) (by omega)]; omega
  have e5 : uAa .i64 (Int.tdiv ((0 : Nat) : Int) 64) = ((0 : Nat) : Int) := rfl
  have e6 : Int.tmod ((0 : Nat) : Int) 64 = ((0 : Nat) : Int) := rfl
  simp only [e0, e1, e2, e2', e3, e3', e4, e5, e6, uAt]
  have hmin : minN u.length (Nat.sub D 0) = D := by rw [show Nat.sub D 0 = D from rfl, hlen', minN, show Nat.ble D D = true from ble_t (Nat.le_refl _), ifb_true]
  have htk : List.take (Nat.mul D 1) (u.flatMap Ei16.f) = u.flatMap Ei16.f := by rw [List.take_of_length_le (by rw [Enc.flen Ei16 u, hlen']; exact Nat.le_refl _)]
  simp only [hmin, htk]
  have hu1 : (u.flatMap Ei16.f).length = D := by rw [Enc.flen Ei16 u, hlen']; exact Nat.mul_one _
  have hs : (repl D [AV.int .i16 0]).length = D := by
   rw [show repl D [AV.int .i16 0] = (List.replicate D (0 : Int)).flatMap Ei16.f from repl_enc (E := Ei16) (x := 0) D, Enc.flen, List.length_replicate]; exact Nat.mul_one _
  refine ⟨by decide, Nat.le_refl _, by decide, trivial, trivial, trivial, trivial, by omega, by omega, by omega, uAg (by omega) (by decide), ?_⟩
  rw [uAj (by rw [repl_scal]; rfl)]
  refine ⟨by omega, uAg (by omega) (by decide), by decide, ⟨by decide, by decide⟩, 0, rfl, by decide, by omega, ⟨by decide, by decide⟩, Nat.le_refl _, trivial, trivial, by omega, by omega, by omega, by omega, by omega, by omega, trivial, trivial, trivial, trivial, trivial, by rw [hu1]; show D * 1 ≤ D; omega, ?_⟩
  rw [uAj (Enc.fscal Ei16 u)]
  have ho := uBj.1 (allB_at onesO (show 0 < 64 by omega))
  have ha := all_set (A := []) hlen'
  refine ⟨by rw [hs, hu1]; show 0 + 0 * 1 + D ≤ _; omega, Or.inr ⟨[ones 1], ?_, u, ?_, trivial, rfl, hlen, ?_⟩⟩
  ·show [AV.int .u64 _] = [AV.int .u64 (ones (0 + 1))]
   rw [← ho]; rfl
  ·exact ha
  ·exact ⟨⟨h1, h2⟩, rfl, by simp, rfl, rfl, rfl, by rw [hlen'], by simp, fun w hw => by simp at hw; rw [hw]; exact hlen⟩
 ·rename_i h
  exact Or.inl ⟨(by trivial), rfl, rfl, rfl, vchk_ne h h1 h2⟩
theorem put0Cc : CcOk PP 16 put0K := uB4 mixed (KLY_ok (uAi chkCc (uAq))) rfl put0Step
abbrev qSlott3 := Int × Int × (Nat × Nat) × Unit × Unit
abbrev rputLZ := (Unit × (List Int) × Int × Unit) × (qSlott3 × (List (List Int)) × Unit)
noncomputable def rputLSl : Tel (Unit × (List Int) × Int × Unit) := .cons 0 (.ptr 0) (.cons 1 (.lst Ei16) (.ji 7 (.nil)))
noncomputable abbrev qSlotr1 := Bk.row (.ji 0 (.ji 1 (.cons 2 (.slq 1 1) (.cons 3 (.nilS) (.nil)))))
noncomputable def rputLBl : BTel (qSlott3 × (List (List Int)) × Unit) := .cons qSlotr1 (.cons (.rowsW Evl 23) (.nil))
noncomputable def rputLFs : List (LForm rputLZ) := [⟨_, _, rputLSl, rputLBl, fun x y => (x, y)⟩]
abbrev qSlot3 := Unit × (List Int) × Int × Unit
abbrev qSlot4 := qSlott3 × (List (List Int)) × Unit
noncomputable def rputLAlts (R0 : rputLZ → qSlot3 → qSlot4 → Prop) : List (Alt rputLZ) := [⟨.exit 0, qSlot3, qSlot4, .cons 0 (.ptr 0) (.cons 1 (.lst Ei16) (.ji 7 (.nil))), .cons qSlotr1 (.cons (.rowsW Evl 23) (.nil)), R0⟩]
theorem rputLForm (v : List Int) (k D R : Int) (V : Nat × Nat) (W : List (List Int)) (N : rputLZ → Prop) (R0 : rputLZ → qSlot3 → qSlot4 → Prop) : ((runW PP (KLX [] [] [23] [] []) 100).code none 20 68 (uAd PP 20 5) (mkT (rputLSl.av id ((), v, k, ()))) [] (stL true (rputLBl.obs id ((D, R, V, (), ()), W, ())) .leaf (fun u => hasT u [23])) (uCh 2 rputLFs (rputLAlts R0) (((), v, k, ()), (D, R, V, (), ()), W, ()) N)) = ( ifp (!uAf (Int.ofNat V.1) k) (uAp k V.1 ∧ ∃ l' n c x w e, nth (Nat.add 0 ((uAc k).mul 1)) (W.flatMap Evl.f) = some (AV.vs l' n c x w e) ∧ n ≠ 0 ∧ True ∧ ∃ l, Wv Ei16 v l ∧ ∃ (l_1 : List (List Int)), WkL (W.flatMap Evl.f) (l_1.flatMap Evl.f) ∧ true = true ∧ N (((), l, uAa .i64 (k.add 1), ()), (D, R, V, (), ()), l_1, ())) (True ∧ ∃ l, Wv Ei16 v l ∧ ∃ (l_1 : List (List Int)), WkL (W.flatMap Evl.f) (l_1.flatMap Evl.f) ∧ true = true ∧ R0 (((), v, k, ()), (D, R, V, (), ()), W, ()) ((), l, k, ()) ((D, R, V, (), ()), l_1, ()))) := by kernel_rfl
def rputLInv : rputLZ → Prop := fun (((), v, k, ()), (D, R, V, (), ()), W, ()) => ∃ q : Nat, k = q ∧ q ≤ W.length ∧ V = (W.length, W.length) ∧ W.length ≤ 60 ∧ (∀ v ∈ W, v.length ≠ 0)
def rputLMu : rputLZ → Nat := fun (((), v, k, ()), (D, R, V, (), ()), W, ()) => W.length - k.toNat
def rputLR0 : rputLZ → qSlot3 → qSlot4 → Prop := fun (((), v, k, ()), (D, R, V, (), ()), W, ()) (_, v2, k2, _) ((D2, R2, V2, _), W2, _) => v2 = v ∧ k2 = W.length ∧ D2 = D ∧ R2 = R ∧ V2 = V ∧ W2 = W
noncomputable def rputLC : uB5 := uC9 2 rputLFs (rputLAlts rputLR0) rputLInv
theorem rputLStep : uA3 PP (KLX [] [] [23] [] []) 100 20 68 (uAd PP 20 5) 2 true rputLFs (rputLAlts rputLR0) rputLInv rputLMu ⟨_, _, rputLSl, rputLBl, fun x y => (x, y)⟩ .leaf (fun u => hasT u [23]) := by
 intro x y hz
 obtain ⟨_, v, k, _⟩ := x
 obtain ⟨⟨D, R, V, _, _⟩, W, _⟩ := y
 refine (rputLForm v k D R V W _ _).mpr ?_
 obtain ⟨q, rfl, hq, rfl, hl, hv⟩ := hz
 rw [uAe]
 simp only [uAt]
 split
 ·rename_i h
  have hql : q < W.length := by simpa using h
  refine ⟨uAk hql, _, _, _, _, _, _, by rw [show Nat.add 0 (Nat.mul q 1) = Nat.mul q 1 from Nat.zero_add _]; exact uA4 hql, hv _ (List.getElem_mem hql), trivial, v, Wk.refl _, W, WkL.refl _, (by trivial), ?_⟩
  rw [uCb (by omega)]
  exact ⟨⟨q + 1, rfl, hql, rfl, hl, hv⟩, by show W.length - (q + 1) < W.length - q; omega, fun _ _ h => h, trivial⟩
 ·rename_i h
  have hql : ¬ q < W.length := by simpa using h
  refine ⟨trivial, v, Wk.refl _, W, WkL.refl _, (by trivial), rfl, ?_, rfl, rfl, rfl, rfl⟩
  show (q : Int) = W.length
  omega
theorem rputLOk : uAs PP 20 68 (.loop (uAd PP 20 5)) (rputLC) := uBf rputLMu  mixed (uDp (uAq)) rfl (uAo rputLStep (uAx))
abbrev rput1Z := qSlott0 × qSlot4
noncomputable def rput1T : Tel qSlott0 := .cons 0 (.ptr 0) (.cons 1 (.lst Ei16) (.nil))
noncomputable def rput1Bl : BTel qSlot4 := .cons qSlotr1 (.cons (.rowsW Evl 23) (.nil))
noncomputable def rput1Res (R0 : rput1Z → qSlot1 → qSlot4 → Prop) : List (Res rput1Z) := [⟨Int × Int × Unit, qSlot4, .ji 0 (.ji 1 (.nil)), .cons qSlotr1 (.cons (.rowsW Evl 23) (.nil)), R0⟩]
abbrev zrput1 (u : List Int) (D R : Int) (V : Nat × Nat) (W : List (List Int)) : rput1Z := (((), u, ()), (D, R, V, (), ()), W, ())
theorem rput1Fn (u : List Int) (D R : Int) (V : Nat × Nat) (W : List (List Int)) (R0 : rput1Z → qSlot1 → qSlot4 → Prop) : (uA2 PP (runW PP (KLX [(34, rchkK)] [(20, [(5, rputLC)])] [23] [] []) 200) 20 (rput1T.cells id ((), u, ())) (stL true (rput1Bl.obs id ((D, R, V, (), ()), W, ())) .leaf (fun u => hasT u [23])) (fun v st => uA1 1 (zrput1 u D R V W) v st (rput1Res R0))) = ( ∃ l, Wv Ei16 u l ∧ rchkPre (l, D, ()) ∧ ifp (!uA0 (vchk l D) 0) (∃ (l_1 : List (List Int)), WkL (W.flatMap Evl.f) (l_1.flatMap Evl.f) ∧ true = true ∧ R0 (zrput1 u D R V W) (0, vchk l D, ()) ((D, R, V, (), ()), l_1, ())) (uAs PP 20 68 (uAd PP 20 5).loop rputLC ∧ True ∧ True ∧ ∃ l, Wv Ei16 u l ∧ ∃ (l_1 : List (List Int)), WkL (W.flatMap Evl.f) (l_1.flatMap Evl.f) ∧ true = true ∧ rputLInv (((), l, 0, ()), (D, R, V, (), ()), l_1, ()) ∧ (∀ c d, rputLR0 (((), l, 0, ()), (D, R, V, (), ()), l_1, ()) c d → ifp (uAf d.1.2.1 c.2.2.1) (∃ (l : List (List Int)), WkL (List.flatMap Evl.f d.2.1) (l.flatMap Evl.f) ∧ true = true ∧ R0 (zrput1 u D R V W) (0, 7, ()) ((d.1.1, d.1.2.1, d.1.2.2.1, (), ()), l, ())) (ifp (uA0 c.2.2.1 (Int.ofNat d.1.2.2.1.1)) (1 ≤ 1 ∧ (d.1.2.2.1.2 < d.1.2.2.1.1.add 1 ∧ 0 = 0 ∧ d.1.2.2.1.1.mul 1 = (List.flatMap Evl.f d.2.1).length ∧ roomy (d.1.2.2.1.1.add 1) 24 = true ∧ (List.flatMap Ei16.f c.2.1).length = c.2.1.length.mul 1 ∧ ifp (uAm (List.flatMap Ei16.f c.2.1) && true) (ifp (roomy (Nat.add 0 c.2.1.length) 2) (uAp c.2.2.1 (d.1.2.2.1.1.add 1) ∧ (Nat.add 0 ((uAc c.2.2.1).mul 1)).add 1 ≤ (List.flatMap Evl.f d.2.1 ++ [AV.nilSlice]).length ∧ (AV.slice 3 0 (d.1.2.2.1.1.add 1) (d.1.2.2.1.1.add 1) false 1 = AV.slice 3 0 (d.1.2.2.1.1.add 1) (d.1.2.2.1.1.add 1) false 1 ∧ True) ∧ ∃ (l : List (List Int)), WkL (setAt (Nat.add 0 ((uAc c.2.2.1).mul 1)) [AV.vs ([] ++ List.flatMap Ei16.f c.2.1) (Nat.add 0 c.2.1.length) (Nat.add 0 c.2.1.length) false (some 14) 1] (List.flatMap Evl.f d.2.1 ++ [AV.nilSlice])) (l.flatMap Evl.f) ∧ true = true ∧ R0 (zrput1 u D R V W) (c.2.2.1, 0, ()) ((d.1.1, d.1.2.1, (d.1.2.2.1.1.add 1, d.1.2.2.1.1.add 1), (), ()), l, ())) False) False ∨ d.1.2.2.1.1.add 1 ≤ d.1.2.2.1.2 ∧ 1 ≠ 0 ∧ (Nat.add 0 (d.1.2.2.1.1.mul 1)).add 1 ≤ (List.flatMap Evl.f d.2.1).length ∧ (List.flatMap Ei16.f c.2.1).length = c.2.1.length.mul 1 ∧ ifp (uAm (List.flatMap Ei16.f c.2.1) && true) (ifp (roomy (Nat.add 0 c.2.1.length) 2) (uAp c.2.2.1 (d.1.2.2.1.1.add 1) ∧ (Nat.add 0 ((uAc c.2.2.1).mul 1)).add 1 ≤ (setAt (Nat.add 0 (d.1.2.2.1.1.mul 1)) [AV.nilSlice] (List.flatMap Evl.f d.2.1)).length ∧ (AV.slice 1 0 (d.1.2.2.1.1.add 1) d.1.2.2.1.2 false 1 = AV.slice 1 0 (d.1.2.2.1.1.add 1) d.1.2.2.1.2 false 1 ∧ True) ∧ ∃ (l : List (List Int)), WkL (setAt (Nat.add 0 ((uAc c.2.2.1).mul 1)) [AV.vs ([] ++ List.flatMap Ei16.f c.2.1) (Nat.add 0 c.2.1.length) (Nat.add 0 c.2.1.length) false (some 13) 1] (setAt (Nat.add 0 (d.1.2.2.1.1.mul 1)) [AV.nilSlice] (List.flatMap Evl.f d.2.1))) (l.flatMap Evl.f) ∧ true = true ∧ R0 (zrput1 u D R V W) (c.2.2.1, 0, ()) ((d.1.1, d.1.2.1, (d.1.2.2.1.1.add 1, d.1.2.2.1.2), (), ()), l, ())) False) False)) ((List.flatMap Ei16.f c.2.1).length = c.2.1.length.mul 1 ∧ ifp (uAm (List.flatMap Ei16.f c.2.1) && true) (ifp (roomy (Nat.add 0 c.2.1.length) 2) (uAp c.2.2.1 d.1.2.2.1.1 ∧ (Nat.add 0 ((uAc c.2.2.1).mul 1)).add 1 ≤ (List.flatMap Evl.f d.2.1).length ∧ (AV.slice 1 0 d.1.2.2.1.1 d.1.2.2.1.2 false 1 = AV.slice 1 0 d.1.2.2.1.1 d.1.2.2.1.2 false 1 ∧ True) ∧ ∃ (l : List (List Int)), WkL (setAt (Nat.add 0 ((uAc c.2.2.1).mul 1)) [AV.vs ([] ++ List.flatMap Ei16.f c.2.1) (Nat.add 0 c.2.1.length) (Nat.add 0 c.2.1.length) false (some 12) 1] (List.flatMap Evl.f d.2.1)) (l.flatMap Evl.f) ∧ true = true ∧ R0 (zrput1 u D R V W) (c.2.2.1, 0, ()) ((d.1.1, d.1.2.1, d.1.2.2.1, (), ()), l, ())) False) False))) ∧ True)) := by kernel_rfl
def rput1Pre : rput1Z → Prop := fun (((), u, ()), (D, R, V, (), ()), W, ()) => 1 ≤ D ∧ D ≤ 1024 ∧ R = 60 ∧ V = (W.length, W.length) ∧ W.length < 60 ∧ (∀ v ∈ W, v.length ≠ 0)
def rput1R0 : rput1Z → qSlot1 → qSlot4 → Prop := fun (((), u, ()), (D, R, V, (), ()), W, ()) _ ((D2, R2, V2, _), W2, _) => D2 = D ∧ R2 = R ∧ V2 = (W2.length, W2.length) ∧ W2 = putS D W u
noncomputable def rput1K : uA6 := uD4 1 rput1T rput1Bl rput1Pre (rput1Res rput1R0)
theorem rput1Step (z : rput1Z) (hp : rput1Pre z) : uA2 PP (runW PP (KLX [(34, rchkK)] [(20, [(5, rputLC)])] [23] [] []) 200) 20 (rput1T.cells id z.1) (stL true (rput1Bl.obs id z.2) .leaf (fun u => hasT u [23])) (fun v st => uA1 1 z v st (rput1Res rput1R0)) := by
 obtain ⟨⟨_, u, _⟩, ⟨⟨D, R, V, _, _⟩, W, _⟩⟩ := z
 refine (rput1Fn u D R V W _).mpr ?_
 obtain ⟨h1, h2, rfl, rfl, hW, hv⟩ := hp
 refine ⟨u, Wk.refl _, trivial, ?_⟩
 rw [uBu]
 split
 ·rename_i h
  obtain ⟨_, _, hlen⟩ := vchk_zero h
  refine ⟨rputLOk, trivial, trivial, u, Wk.refl _, W, WkL.refl _, (by trivial), ⟨0, rfl, Nat.zero_le _, rfl, by omega, hv⟩, fun c1 d1 hr => ?_, trivial⟩
  obtain ⟨_, u2, k2, _⟩ := c1
  obtain ⟨⟨D2, R2, V2, _, _⟩, W2, _⟩ := d1
  obtain ⟨rfl, rfl, rfl, rfl, rfl, rfl⟩ := hr
  dsimp only
  rw [uEg, if_neg (by omega), uCz, if_pos (show ((W2.length : Nat) : Int) = Int.ofNat W2.length from rfl)]
  simp only [uAt]
  have hWl : (W2.flatMap Evl.f).length = W2.length := by rw [Enc.flen Evl W2]; exact Nat.mul_one _
  refine ⟨Nat.le_refl _, Or.inl ⟨Nat.lt_succ_self _, (by trivial), by rw [hWl]; exact Nat.mul_one _, uAg (by show W2.length + 1 ≤ _; omega) (by decide), Enc.flen Ei16 u2, ?_⟩⟩
  rw [uAj (by rw [Enc.fscal Ei16 u2]; rfl), uAj (uAg (by simp only [Nat.add_eq]; omega) (by decide))]
  refine ⟨⟨by omega, by show (W2.length : Int) < ((W2.length + 1 : Nat) : Int); omega⟩, by rw [List.length_append, hWl]; show 0 + W2.length * 1 + 1 ≤ W2.length + 1; omega, ⟨(by trivial), trivial⟩, W2 ++ [u2], ?_, (by trivial), rfl, rfl, by simp, by rw [putS, if_pos hlen]⟩
  rw [show Nat.add 0 (Nat.mul W2.length 1) = (W2.flatMap Evl.f).length by rw [hWl]; show 0 + W2.length * 1 = _; omega, setAt, List.take_left, List.drop_of_length_le (by simp), List.append_nil]
  exact wkl_snoc (E := Evl) ⟨wk_vs ⟨rfl, by simp, rfl⟩, trivial⟩
 ·rename_i h
  exact ⟨W, WkL.refl _, (by trivial), rfl, rfl, rfl, by rw [putS, if_neg (vchk_ne h h1 h2)]⟩
theorem rput1Cc : CcOk PP 20 rput1K := uB4 mixed (uDp (uAi rchkCc (uAq))) rfl rput1Step
abbrev qSlott5 := Int × Int × Unit × Unit × Unit
abbrev rput0Z := qSlott0 × (qSlott5 × Unit)
noncomputable def rput0T : Tel qSlott0 := .cons 0 (.ptr 0) (.cons 1 (.lst Ei16) (.nil))
noncomputable def rput0Bl : BTel (qSlott5 × Unit) := .cons (.row (.ji 0 (.ji 1 (.cons 2 (.nilS) (.cons 3 (.nilS) (.nil)))))) (.nil)
abbrev qSlot5 := qSlott5 × Unit
noncomputable def rput0Res (R0 : rput0Z → qSlot1 → qSlot5 → Prop) (R1 : rput0Z → qSlot1 → qSlot4 → Prop) : List (Res rput0Z) := [⟨Int × Int × Unit, qSlot5, .ji 0 (.ji 1 (.nil)), .cons (.row (.ji 0 (.ji 1 (.cons 2 (.nilS) (.cons 3 (.nilS) (.nil)))))) (.nil), R0⟩, ⟨Int × Int × Unit, qSlot4, .ji 0 (.ji 1 (.nil)), .cons qSlotr1 (.cons (.rowsW Evl 23) (.nil)), R1⟩]
theorem rput0Fn (u : List Int) (D R : Int) (R0 : rput0Z → qSlot1 → qSlot5 → Prop) (R1 : rput0Z → qSlot1 → qSlot4 → Prop) : (uA2 PP (runW PP (KLX [(34, rchkK)] [] [23] [] []) 200) 20 (rput0T.cells id ((), u, ())) (stL true (rput0Bl.obs id ((D, R, (), (), ()), ())) .leaf (fun u => hasT u [23])) (fun v st => uA1 1 (((), u, ()), (D, R, (), (), ()), ()) v st (rput0Res R0 R1))) = ( ∃ l, Wv Ei16 u l ∧ rchkPre (l, D, ()) ∧ ifp (!uA0 (vchk l D) 0) (true = true ∧ R0 (((), u, ()), (D, R, (), (), ()), ()) (0, vchk l D, ()) ((D, R, (), (), ()), ()) ∨ False) (ifp (uAf R 0) (true = true ∧ R0 (((), u, ()), (D, R, (), (), ()), ()) (0, 7, ()) ((D, R, (), (), ()), ()) ∨ False) (1 ≤ 1 ∧ 1 ≠ 0 ∧ true = true ∧ (u.flatMap Ei16.f).length = u.length.mul 1 ∧ ifp (uAm (u.flatMap Ei16.f) && true) (ifp (roomy (Nat.add 0 u.length) 2) (uAp 0 1 ∧ 1 ≤ 1 ∧ (AV.slice 2 0 1 1 false 1 = AV.slice 2 0 1 1 false 1 ∧ True) ∧ (False ∨ ∃ (l : List (List Int)), WkL (setAt 0 [AV.vs ([] ++ u.flatMap Ei16.f) (Nat.add 0 u.length) (Nat.add 0 u.length) false (some 13) 1] [AV.nilSlice]) (l.flatMap Evl.f) ∧ true = true ∧ R1 (((), u, ()), (D, R, (), (), ()), ()) (0, 0, ()) ((D, R, (1, 1), (), ()), l, ()))) False) False))) := by kernel_rfl
def rput0Pre : rput0Z → Prop := fun (((), u, ()), (D, R, (), (), ()), ()) => 1 ≤ D ∧ D ≤ 1024 ∧ R = 60
def rput0R0 : rput0Z → qSlot1 → qSlot5 → Prop := fun (((), u, ()), (D, R, (), (), ()), ()) _ ((D2, R2, _), _) => D2 = D ∧ R2 = R ∧ (u.length : Int) ≠ D
def rput0R1 : rput0Z → qSlot1 → qSlot4 → Prop := fun (((), u, ()), (D, R, (), (), ()), ()) _ ((D2, R2, V2, _), W2, _) => D2 = D ∧ R2 = R ∧ V2 = (1, 1) ∧ (u.length : Int) = D ∧ W2 = [u]
noncomputable def rput0K : uA6 := uD4 1 rput0T rput0Bl rput0Pre (rput0Res rput0R0 rput0R1)
theorem rput0Step (z : rput0Z) (hp : rput0Pre z) : uA2 PP (runW PP (KLX [(34, rchkK)] [] [23] [] []) 200) 20 (rput0T.cells id z.1) (stL true (rput0Bl.obs id z.2) .leaf (fun u => hasT u [23])) (fun v st => uA1 1 z v st (rput0Res rput0R0 rput0R1)) := by
 obtain ⟨⟨_, u, _⟩, ⟨⟨D, R, _, _, _⟩, _⟩⟩ := z
 refine (rput0Fn u D R _ _).mpr ?_
 obtain ⟨h1, h2, rfl⟩ := hp
 refine ⟨u, Wk.refl _, trivial, ?_⟩
 rw [uBu]
 split
 ·rename_i h
  obtain ⟨_, _, hlen⟩ := vchk_zero h
  rw [uEg, if_neg (by omega)]
  refine ⟨Nat.le_refl _, by decide, (by trivial), Enc.flen Ei16 u, ?_⟩
  rw [uAj (by rw [Enc.fscal Ei16 u]; rfl), uAj (uAg (by simp only [Nat.add_eq]; omega) (by decide))]
  exact ⟨⟨by decide, by decide⟩, Nat.le_refl _, ⟨rfl, trivial⟩, Or.inr ⟨[u], ⟨wk_vs ⟨rfl, by simp, rfl⟩, trivial⟩, (by trivial), rfl, rfl, rfl, hlen, rfl⟩⟩
 ·rename_i h
  exact Or.inl ⟨(by trivial), rfl, rfl, vchk_ne h h1 h2⟩
theorem rput0Cc : CcOk PP 20 rput0K := uB4 mixed (uDp (uAi rchkCc (uAq))) rfl rput0Step
end Go.Proofs.YteehkdejkemnmacDoor
namespace Go.Proofs.YteehkdejkemnmacDoor
open Go.Det Go.RowKit
set_option maxRecDepth 100000
def mayC (c : Cd) : Bool := decide (0 ≤ c.2.1) && decide (c.2.1 ≤ 70368744177664) && (decide (0 ≤ c.2.2.1) && decide (c.2.2.1 ≤ 281474976710656))
theorem mayC_iff {c : Cd} : mayC c = true ↔ (0 ≤ c.2.1 ∧ c.2.1 ≤ 70368744177664) ∧ (0 ≤ c.2.2.1 ∧ c.2.2.1 ≤ 281474976710656) := by simp [mayC]
theorem may_low {c : Cd} (h : mayC c = true) : lowV c = c.2.1 - c.2.2.1 := by
 obtain ⟨h1, h2⟩ := mayC_iff.1 h
 exact wsub (by omega) (by omega)
noncomputable def mayfT : Tel (Cd × Unit) := .cons 0 (.agg Ec) (.nil)
theorem mayfFn (c : Cd) (Q : AV → Prop) : (uA2 PP (runW PP (KL [] []) 200) 52 (mayfT.cells id (c, ())) (stE false) (fun x st => frzW st x Q)) = ( ifp (uAf 0 (ifb (uAf c.2.1 c.2.2.1) c.2.1 c.2.2.1)) (ifp (uAf c.2.1 70368744177664) (ifp (uAf c.2.2.1 281474976710656) (ifp (uAf (uAa .i64 (c.2.1.sub c.2.2.1)) 4611686018427387904) (Q (AV.bool false)) (Q (AV.bool true))) (Q (AV.bool true))) (Q (AV.bool true))) (Q (AV.bool true))) := by kernel_rfl
def mayfPre : Cd × Unit → Prop := fun (c, ()) => True
noncomputable def mayfRes : Cd × Unit → AV := fun (c, ()) => .bool (!mayC c)
noncomputable def mayfK : uA6 := valC mayfT mayfPre mayfRes
theorem mayfVal (c : Cd) (hp : mayfPre (c, ())) : Val PP 52 (mayfT.cells id (c, ())) (mayfRes (c, ())) := by
 refine Val.ofF mixed (uC8 (uAq)) (uDa rfl _) (mayfFn c) ?_
 have hmn : ifb (uAf c.2.1 c.2.2.1) c.2.1 c.2.2.1 = min c.2.1 c.2.2.1 := by
  rw [uBo, uCk]
  by_cases h : c.2.1 ≤ c.2.2.1
  ·rw [if_pos (by simpa using h)]; omega
  ·rw [if_neg (by simpa using h)]; omega
 rw [hmn, uEg, uEg, uEg, uEg]
 have no : ¬ ((0 ≤ c.2.1 ∧ c.2.1 ≤ 70368744177664) ∧ (0 ≤ c.2.2.1 ∧ c.2.2.1 ≤ 281474976710656)) → true = !mayC c := fun h => by
  have n : mayC c = false := by rw [← Bool.not_eq_true, mayC_iff]; exact h
  rw [n]; rfl
 split
 ·rename_i h1
  split
  ·rename_i h2
   split
   ·rename_i h3
    have y : mayC c = true := mayC_iff.2 ⟨⟨by omega, h2⟩, by omega, h3⟩
    rw [show uAa .i64 (Int.sub c.2.1 c.2.2.1) = c.2.1 - c.2.2.1 from may_low y, if_pos (by omega)]
    exact uBk (by rw [y]; rfl)
   ·exact uBk (no (by omega))
  ·exact uBk (no (by omega))
 ·exact uBk (no (by omega))
theorem mayfCc : CcOk PP 52 mayfK := uC2 rfl (fun ⟨c, _⟩ h => mayfVal c h)
abbrev mayIZ := ((List Cd) × Unit × Int × Int × Unit) × (Unit)
noncomputable def mayISl : Tel ((List Cd) × Unit × Int × Int × Unit) := .cons 0 (.lst Ec) (.cons 1 (.fnp 52 []) (.ji 7 (.ji 8 (.nil))))
noncomputable def mayIBl : BTel (Unit) := .nil
noncomputable def mayIFs : List (LForm mayIZ) := [⟨_, _, mayISl, mayIBl, fun x y => (x, y)⟩]
noncomputable def mayIAlts (R0 : mayIZ → (Unit) → (Unit) → Prop) (R1 : mayIZ → (Int × Unit) → (Unit) → Prop) : List (Alt mayIZ) := [⟨.exit 0, Unit, Unit, .nil, .nil, R0⟩, ⟨.ret, Int × Unit, Unit, .ji 4 (.nil), .nil, R1⟩]
theorem mayIForm (l : List Cd) (n i : Int) (N : mayIZ → Prop) (R0 : mayIZ → (Unit) → (Unit) → Prop) (R1 : mayIZ → (Int × Unit) → (Unit) → Prop) : ((runW PP (KL [(52, mayfK)] []) 100).code none 65 19 (uAd PP 65 2) (mkT (mayISl.av id (l, (), n, i, ()))) [] (stL false (mayIBl.obs id ())) (uCh 0 mayIFs (mayIAlts R0 R1) ((l, (), n, i, ()), ()) N)) = ( ifp (!uAf n i) (uAp i l.length ∧ ∃ x, Nt Ec (uAc i) 4 0 l x ∧ ∃ x_1, Nt Ec (uAc i) 4 1 l x_1 ∧ ∃ x_2, Nt Ec (uAc i) 4 2 l x_2 ∧ ∃ x_3, Nt Ec (uAc i) 4 3 l x_3 ∧ ∃ a : Cd, Ag4 x x_1 x_2 x_3 a ∧ mayfPre (a, ()) ∧ ifp (!mayC a) (True ∧ true = true ∧ R1 ((l, (), n, i, ()), ()) (i, ()) ()) (True ∧ ∃ l_1, Wv Ec l l_1 ∧ true = true ∧ N ((l_1, (), n, uAa .i64 (i.add 1), ()), ()))) (True ∧ true = true ∧ R0 ((l, (), n, i, ()), ()) () ())) := by kernel_rfl
def mayIInv : mayIZ → Prop := fun ((l, (), n, i, ()), ()) => ∃ k : Nat, i = k ∧ n = l.length ∧ k ≤ l.length ∧ l.length < 9223372036854775807 ∧ (l.take k).all mayC = true
def mayIMu : mayIZ → Nat := fun ((l, (), n, i, ()), ()) => l.length - i.toNat
def mayIR0 : mayIZ → (Unit) → (Unit) → Prop := fun ((l, (), n, i, ()), ()) _ _ => l.all mayC = true
def mayIR1 : mayIZ → (Int × Unit) → (Unit) → Prop := fun ((l, (), n, i, ()), ()) (q, _) _ => 0 ≤ q ∧ l.all mayC = false
noncomputable def mayIC : uB5 := uC9 0 mayIFs (mayIAlts mayIR0 mayIR1) mayIInv
theorem mayIStep : uA3 PP (KL [(52, mayfK)] []) 100 65 19 (uAd PP 65 2) 0 false mayIFs (mayIAlts mayIR0 mayIR1) mayIInv mayIMu ⟨_, _, mayISl, mayIBl, fun x y => (x, y)⟩ := by
 intro x y hz
 obtain ⟨l, _, n, i, _⟩ := x
 obtain _ := y
 refine (mayIForm l n i _ _ _).mpr ?_
 obtain ⟨k, rfl, rfl, hk, hl, ht⟩ := hz
 rw [uAe]
 simp only [uAt]
 split
 ·rename_i h
  have hkl : k < l.length := by simpa using h
  refine ⟨uAk hkl, _, nth_cd0 hkl, _, nth_cd1 hkl, _, nth_cd2 hkl, _, nth_cd3 hkl, l[k], rfl, trivial, ?_⟩
  cases hm : mayC l[k] with
  | true =>
   rw [uDn (show (!true) = false from rfl)]
   refine ⟨trivial, l, Wk.refl _, (by trivial), ?_⟩
   rw [uCb (by omega)]
   exact ⟨⟨k + 1, rfl, rfl, hkl, hl, by rw [all_take_succ hkl, ht, hm]; rfl⟩, by show l.length - (k + 1) < l.length - k; omega, fun _ _ h => h, fun _ _ h => h, trivial⟩
  | false =>
   rw [uAj (show (!false) = true from rfl)]
   exact ⟨trivial, (by trivial), by omega, all_of_get hkl hm⟩
 ·rename_i h
  have hkl : ¬ k < l.length := by simpa using h
  exact ⟨trivial, (by trivial), by rw [take_all hkl] at ht; exact ht⟩
theorem mayIOk : uAs PP 65 19 (.loop (uAd PP 65 2)) (mayIC) := uBf mayIMu  mixed (uC8 (uAi mayfCc (uAq))) rfl (uAo mayIStep (uAx))
noncomputable def mayT : Tel ((List Cd) × Unit) := .cons 0 (.lst Ec) (.nil)
theorem mayFn (l : List Cd) (Q : AV → Prop) : (uA2 PP (runW PP (KL [] [(65, [(2, mayIC)])]) 200) 29 (mayT.cells id (l, ())) (stE false) (fun x st => frzW st x Q)) = ( uAs PP 65 19 (uAd PP 65 2).loop mayIC ∧ True ∧ True ∧ ∃ l_1, Wv Ec l l_1 ∧ true = true ∧ mayIInv ((l_1, (), Int.ofNat l.length, 0, ()), ()) ∧ (∀ (c d : Unit), mayIR0 ((l_1, (), Int.ofNat l.length, 0, ()), ()) c d → Q (AV.bool true)) ∧ (∀ c d, mayIR1 ((l_1, (), Int.ofNat l.length, 0, ()), ()) c d → ifp (uAf 0 c.1) (Q (AV.bool false)) (Q (AV.bool true))) ∧ True) := by kernel_rfl
def mayPre : (List Cd) × Unit → Prop := fun (l, ()) => l.length < 9223372036854775807
noncomputable def mayRes : (List Cd) × Unit → AV := fun (l, ()) => .bool (l.all mayC)
noncomputable def mayK : uA6 := valC mayT mayPre mayRes
theorem mayVal (l : List Cd) (hp : mayPre (l, ())) : Val PP 29 (mayT.cells id (l, ())) (mayRes (l, ())) := by
 refine Val.ofF mixed (uC8 (uAq)) (uDa rfl _) (mayFn l) ?_
 refine ⟨mayIOk, trivial, trivial, l, Wk.refl _, (by trivial), ⟨0, rfl, rfl, Nat.zero_le _, hp, rfl⟩, fun _ _ hr => ?_, fun c _ hr => ?_, trivial⟩
 ·exact uBk (Eq.symm hr)
 ·obtain ⟨q, _⟩ := c
  obtain ⟨h0, hf⟩ := hr
  rw [uEg, if_pos h0]
  exact uBk hf.symm
theorem mayCc : CcOk PP 29 mayK := uC2 rfl (fun ⟨l, _⟩ h => mayVal l h)
noncomputable def sortR (l : List Cd) : List Cd := Stab.sort ltC l
noncomputable def ordC (l : List Cd) : List Cd := if l.all mayC = true then sortR l else []
noncomputable def ord1T : Tel ((List Cd) × Unit) := .cons 0 (.lst Ec) (.nil)
theorem ord1Fn (l : List Cd) (Q : AV → Prop) : (uA2 PP (runW PP (KLS [(29, mayK), (44, sstabK)] [] 54) 200) 26 (ord1T.cells id (l, ())) (stE false) (fun x st => frzW st x Q)) = ( ∃ l_1, Wv Ec l l_1 ∧ mayPre (l_1, ()) ∧ ifp (l_1.all mayC) (l.length ≠ 0 ∧ (l.flatMap Ec.f).length = l.length.mul 4 ∧ ifp (uAm (l.flatMap Ec.f) && true) (0 < Nat.add 0 l.length ∧ 0 = 0 ∧ 0 = 0 ∧ roomy (Nat.add 0 l.length) 32 = true ∧ ∃ (l_2 : List Cd), [] ++ l.flatMap Ec.f = l_2.flatMap Ec.f ∧ true = true ∧ sstabPre (((Nat.add 0 l.length, Nat.add 0 l.length), (), ()), l_2, ()) ∧ (∀ c d, sstabR0 (((Nat.add 0 l.length, Nat.add 0 l.length), (), ()), l_2, ()) c d → (0 : Int) ≤ Int.ofNat (Nat.add 0 l.length) ∧ Int.ofNat (Nat.add 0 l.length) ≤ ↑(Nat.add 0 l.length) ∧ (0 : Int) ≤ Int.ofNat (Nat.add 0 l.length) ∧ Int.ofNat (Nat.add 0 l.length) ≤ ↑(uAc (Int.ofNat (Nat.add 0 l.length))) ∧ Nat.add 0 (((uAc (Int.ofNat (Nat.add 0 l.length))).sub 0).mul 4) ≤ (List.flatMap Ec.f d.1).length ∧ Q (AV.vs (List.take (((uAc (Int.ofNat (Nat.add 0 l.length))).sub 0).mul 4) (List.drop 0 (List.flatMap Ec.f d.1))) ((uAc (Int.ofNat (Nat.add 0 l.length))).sub 0) ((uAc (Int.ofNat (Nat.add 0 l.length))).sub 0) (mxEx (some (I64 (Int.ofNat (Nat.add 0 l.length)))) false) none 4)) ∧ True) False) (Q AV.nilSlice)) := by kernel_rfl
def ord1Pre : (List Cd) × Unit → Prop := fun (l, ()) => 0 < l.length ∧ l.length ≤ 1000000
noncomputable def ord1Res : (List Cd) × Unit → AV := fun (l, ()) => lst Ec (ordC l)
theorem ord1Val (l : List Cd) (hp : ord1Pre (l, ())) : Val PP 26 (ord1T.cells id (l, ())) (ord1Res (l, ())) := by
 refine Val.ofF mixed (uCn (uAi mayCc (uAi sstabCc (uAq)))) (uDa rfl _) (ord1Fn l) ?_
 obtain ⟨h0, hl⟩ := hp
 have e0 : Nat.add 0 l.length = l.length := Nat.zero_add _
 have hs : (sortR l).length = l.length := Stab.uDr l
 refine ⟨l, Wk.refl _, by show l.length < _; omega, ?_⟩
 cases hm : l.all mayC with
 | false =>
  rw [uDn rfl]
  show Tells .nilSlice (lst Ec (ordC l))
  rw [ordC, if_neg (by rw [hm]; simp)]; exact tells_nil _
 | true =>
  rw [uAj rfl]
  refine ⟨by omega, cd_len l, ?_⟩
  rw [uAj (by rw [Enc.fscal Ec]; rfl)]
  simp only [e0]
  refine ⟨h0, (by trivial), (by trivial), uAg (by omega) (by decide), l, rfl, (by trivial), ⟨rfl, hl⟩, fun _ d hr => ?_, trivial⟩
  obtain ⟨s, _⟩ := d
  obtain rfl : s = sortR l := hr
  have ho : ordC l = sortR l := by rw [ordC, if_pos hm]
  refine ⟨Int.natCast_nonneg _, Int.le_refl _, Int.natCast_nonneg _, Int.le_refl _, by show 0 + l.length * 4 ≤ ((sortR l).flatMap Ec.f).length; rw [cd_len]; omega, tells_lst ⟨?_, by show l.length = _; rw [ho]; exact hs.symm, rfl⟩⟩
  rw [ho]
  show List.take (l.length * 4) (List.drop 0 ((sortR l).flatMap Ec.f)) = _
  rw [List.drop_zero, List.take_of_length_le (by rw [cd_len]; omega)]
theorem cln0Val : Val PP 43 [.vs [] 0 0 false none 4] (.vs [] 0 0 false none 4) := clone_empty (P := PP) (ρ := Tryd.clone43_ren) Tryd.clone43 _ _ 4 32 rfl rfl rfl rfl rfl (by decide) Tryd.sizeOf54 (fun _ _ => rfl) 4
noncomputable def cln0T : Tel (Unit × Unit) := .cons 0 (.con (.vs [] 0 0 false none 4) rfl) .nil
noncomputable def cln0K : uA6 := valC cln0T (fun _ => True) (fun _ => .vs [] 0 0 false none 4)
theorem cln0Cc : CcOk PP 43 cln0K := uC2 rfl (fun _ _ => cln0Val)
noncomputable def ord0T : Tel (Unit × Unit) := .cons 0 (.con (.vs [] 0 0 false none 4) rfl) (.nil)
theorem ord0Fn (Q : AV → Prop) : (uA2 PP (runW PP (KLS [(29, mayK), (43, cln0K)] [] 54) 200) 26 (ord0T.cells id ((), ())) (stE false) (fun x st => frzW st x Q)) = ( ∃ (l : List Cd), Wk (AV.vs [] 0 0 false none 4) (lst Ec l) ∧ mayPre (l, ()) ∧ ifp (l.all mayC) (AV.vs [] 0 0 false none 4 = AV.vs [] 0 0 false none 4 ∧ True ∧ (0 : Int) ≤ Int.ofNat 0 ∧ Int.ofNat 0 ≤ ↑0 ∧ (0 : Int) ≤ Int.ofNat 0 ∧ Int.ofNat 0 ≤ ↑(uAc (Int.ofNat 0)) ∧ 0 ≤ 0 ∧ 0 = 0 ∧ Q (AV.vs [] 0 0 (mxEx (some (I64 (Int.ofNat 0))) false) none 4)) (Q AV.nilSlice)) := by kernel_rfl
def ord0Pre : Unit × Unit → Prop := fun ((), ()) => True
noncomputable def ord0Res : Unit × Unit → AV := fun ((), ()) => lst Ec []
theorem ord0Val  (hp : ord0Pre ((), ())) : Val PP 26 (ord0T.cells id ((), ())) (ord0Res ((), ())) := by
 refine Val.ofF mixed (uCn (uAi mayCc (uAi cln0Cc (uAq)))) (uDa rfl _) (ord0Fn ) ?_
 refine ⟨[], Wk.refl _, by show (0 : Nat) < _; decide, ?_⟩
 rw [uAj (show ([] : List Cd).all mayC = true from rfl)]
 exact ⟨rfl, trivial, by decide, by decide, by decide, by decide, Nat.le_refl _, rfl, tells_lst (E := Ec) (l := []) ⟨rfl, rfl, rfl⟩⟩
theorem ordVal (l : List Cd) (h : l.length ≤ 1000000) : Val PP 26 (ord1T.cells id (l, ())) (ord1Res (l, ())) := by
 cases l with
 | nil => exact ord0Val trivial
 | cons a l => exact ord1Val _ ⟨by simp, h⟩
def ordPre : (List Cd) × Unit → Prop := fun (l, ()) => l.length ≤ 1000000
noncomputable def ordK : uA6 := valC ord1T ordPre ord1Res
theorem ordCc : CcOk PP 26 ordK := uC2 rfl (fun ⟨l, _⟩ h => ordVal l h)
end Go.Proofs.YteehkdejkemnmacDoor
namespace Go.Proofs.YteehkdejkemnmacDoor
open Go.Det Go.RowKit
set_option maxRecDepth 100000
abbrev Exa := List Near × List Near × Unit
abbrev Ex : Enc Exa := Enc.pair (Enc.list En) (Enc.pair (Enc.list En) Enc.unit)
noncomputable def leanF (k : Int) : Int → List Cd → List Near → Bool
 | _, _, [] => true
 | _, [], _ :: _ => false
 | i, o :: os, r :: rs => decide (r.1 = o.1) && (if i < k then decide (r.2.1 = -1) else decide (lowV o ≤ r.2.1)) && leanF k (i + 1) os rs
noncomputable def leanV (l : List Cd) (rs : List Near) (k : Int) : Bool := l.all mayC && decide (rs.length ≤ (ordC l).length) && leanF k 0 (ordC l) rs
theorem nth_nr {l : List Near} {k j : Nat} (h : k < l.length) (hj : j < 2) : nth (Nat.add (Nat.mul k 2) j) (l.flatMap En.f) = (En.f l[k])[j]? := by rw [uDk]; exact enc_get (E := En) l k j h hj
theorem nth_nr0 {l : List Near} {k : Nat} (h : k < l.length) : nth (Nat.add (Nat.mul k 2) 0) (l.flatMap En.f) = some (.int .i64 l[k].1) := nth_nr h (by decide)
theorem nth_nr1 {l : List Near} {k : Nat} (h : k < l.length) : nth (Nat.add (Nat.mul k 2) 1) (l.flatMap En.f) = some (.int .i64 l[k].2.1) := nth_nr h (by decide)
theorem leanF_step {k i : Int} {os : List Cd} {rs : List Near} {q : Nat} (ho : q < os.length) (hr : q < rs.length) :
  leanF k i (os.drop q) (rs.drop q) = (decide (rs[q].1 = os[q].1) && (if i < k then decide (rs[q].2.1 = -1) else decide (lowV os[q] ≤ rs[q].2.1)) && leanF k (i + 1) (os.drop (q + 1)) (rs.drop (q + 1))) := by
 rw [uBx ho, uBx hr]; rfl
abbrev leanLZ := (Int × (List Cd) × (List Near) × Int × Int × Unit) × (Unit)
noncomputable def leanLSl : Tel (Int × (List Cd) × (List Near) × Int × Int × Unit) := .ji 2 (.cons 7 (.lst Ec) (.cons 24 (.lst En) (.ji 25 (.ji 26 (.nil)))))
noncomputable def leanLBl : BTel (Unit) := .nil
noncomputable def leanLFs : List (LForm leanLZ) := [⟨_, _, leanLSl, leanLBl, fun x y => (x, y)⟩]
noncomputable def leanLAlts (R0 : leanLZ → (Unit) → (Unit) → Prop) (R1 : leanLZ → (Bool × Unit) → (Unit) → Prop) : List (Alt leanLZ) := [⟨.exit 0, Unit, Unit, .nil, .nil, R0⟩, ⟨.ret, Bool × Unit, Unit, .cons 6 (.bool) (.nil), .nil, R1⟩]
theorem leanLForm (k : Int) (o : List Cd) (rs : List Near) (n i : Int) (N : leanLZ → Prop) (R0 : leanLZ → (Unit) → (Unit) → Prop) (R1 : leanLZ → (Bool × Unit) → (Unit) → Prop) : ((runW PP (KL [(27, lowK)] []) 100).code none 12 65 (uAd PP 12 5) (mkT (leanLSl.av id (k, o, rs, n, i, ()))) [] (stL false (leanLBl.obs id ())) (uCh 0 leanLFs (leanLAlts R0 R1) ((k, o, rs, n, i, ()), ()) N)) = ( ifp (!uAf n i) (uAp i rs.length ∧ ∃ x, Nt En (uAc i) 2 0 rs x ∧ ∃ x_1, Nt En (uAc i) 2 1 rs x_1 ∧ uAp i o.length ∧ ∃ x_2, Nt Ec (uAc i) 4 0 o x_2 ∧ ifp (!uA0 x x_2) (T3 <| true = true ∧ R1 ((k, o, rs, n, i, ()), ()) (false, ()) ()) (ifp (!uAf k i) (ifp (!uA0 x_1 (-1)) (T4 <| true = true ∧ R1 ((k, o, rs, n, i, ()), ()) (false, ()) ()) (ifp (uAf k i) (uAp i o.length ∧ ∃ x, Nt Ec (uAc i) 4 0 o x ∧ ∃ x_3, Nt Ec (uAc i) 4 1 o x_3 ∧ ∃ x_4, Nt Ec (uAc i) 4 2 o x_4 ∧ ∃ x_5, Nt Ec (uAc i) 4 3 o x_5 ∧ ∃ a : Cd, Ag4 x x_3 x_4 x_5 a ∧ lowPre (a, ()) ∧ ifp (!uAf (lowV a) x_1) (T4 <| (I64 x_1 = I64 x_1 ∧ True) ∧ True ∧ true = true ∧ R1 ((k, o, rs, n, i, ()), ()) (false, ()) ()) (T4 <| (I64 x_1 = I64 x_1 ∧ True) ∧ True ∧ ∃ l, Wv Ec o l ∧ ∃ l_1, Wv En rs l_1 ∧ true = true ∧ N ((k, l, l_1, n, uAa .i64 (i.add 1), ()), ()))) (T4 <| ∃ l, Wv Ec o l ∧ ∃ l_1, Wv En rs l_1 ∧ true = true ∧ N ((k, l, l_1, n, uAa .i64 (i.add 1), ()), ())))) (ifp (uAf k i) (uAp i o.length ∧ ∃ x, Nt Ec (uAc i) 4 0 o x ∧ ∃ x_3, Nt Ec (uAc i) 4 1 o x_3 ∧ ∃ x_4, Nt Ec (uAc i) 4 2 o x_4 ∧ ∃ x_5, Nt Ec (uAc i) 4 3 o x_5 ∧ ∃ a : Cd, Ag4 x x_3 x_4 x_5 a ∧ lowPre (a, ()) ∧ ifp (!uAf (lowV a) x_1) (T3 <| (I64 x_1 = I64 x_1 ∧ True) ∧ True ∧ true = true ∧ R1 ((k, o, rs, n, i, ()), ()) (false, ()) ()) (T3 <| (I64 x_1 = I64 x_1 ∧ True) ∧ True ∧ ∃ l, Wv Ec o l ∧ ∃ l_1, Wv En rs l_1 ∧ true = true ∧ N ((k, l, l_1, n, uAa .i64 (i.add 1), ()), ()))) (T3 <| ∃ l, Wv Ec o l ∧ ∃ l_1, Wv En rs l_1 ∧ true = true ∧ N ((k, l, l_1, n, uAa .i64 (i.add 1), ()), ()))))) (True ∧ true = true ∧ R0 ((k, o, rs, n, i, ()), ()) () ())) := by kernel_rfl
def leanLInv : leanLZ → Prop := fun ((k, o, rs, n, i, ()), ()) => ∃ q : Nat, i = q ∧ n = rs.length ∧ q ≤ rs.length ∧ rs.length ≤ o.length ∧ o.length ≤ 1000000 ∧ leanF k 0 o rs = leanF k q (o.drop q) (rs.drop q)
def leanLMu : leanLZ → Nat := fun ((k, o, rs, n, i, ()), ()) => rs.length - i.toNat
def leanLR0 : leanLZ → (Unit) → (Unit) → Prop := fun ((k, o, rs, n, i, ()), ()) _ _ => leanF k 0 o rs = true
def leanLR1 : leanLZ → (Bool × Unit) → (Unit) → Prop := fun ((k, o, rs, n, i, ()), ()) (q, _) _ => q = false ∧ leanF k 0 o rs = false
noncomputable def leanLC : uB5 := uC9 0 leanLFs (leanLAlts leanLR0 leanLR1) leanLInv
theorem leanLStep : uA3 PP (KL [(27, lowK)] []) 100 12 65 (uAd PP 12 5) 0 false leanLFs (leanLAlts leanLR0 leanLR1) leanLInv leanLMu ⟨_, _, leanLSl, leanLBl, fun x y => (x, y)⟩ := by
 intro x y hz
 obtain ⟨k, o, rs, n, i, _⟩ := x
 obtain _ := y
 refine (leanLForm k o rs n i _ _ _).mpr ?_
 obtain ⟨q, rfl, rfl, hq, hro, hol, hF⟩ := hz
 rw [uAe]
 simp only [uAt]
 split
 ·rename_i h
  have hqr : q < rs.length := by simpa using h
  have hqo : q < o.length := by omega
  have hs := leanF_step (k := k) (i := (q : Int)) hqo hqr
  have no : (decide (rs[q].1 = o[q].1) && (if (q : Int) < k then decide (rs[q].2.1 = -1) else decide (lowV o[q] ≤ rs[q].2.1))) = false → leanF k 0 o rs = false := fun c => by rw [hF, hs, c]; rfl
  have yes : (decide (rs[q].1 = o[q].1) && (if (q : Int) < k then decide (rs[q].2.1 = -1) else decide (lowV o[q] ≤ rs[q].2.1))) = true → leanF k 0 o rs = leanF k ((q + 1 : Nat) : Int) (o.drop (q + 1)) (rs.drop (q + 1)) := fun c => by rw [hF, hs, c]; rfl
  refine ⟨uAk hqr, _, nth_nr0 hqr, _, nth_nr1 hqr, uAk hqo, _, nth_cd0 hqo, ?_⟩
  rw [uBu]
  split
  ·rename_i e1
   rw [uAe]
   split
   ·rename_i e2
    rw [uBu]
    split
    ·rename_i e3
     rw [uEg, if_neg (by omega)]
     refine ⟨trivial, trivial, trivial, trivial, o, Wk.refl _, rs, Wk.refl _, (by trivial), ?_⟩
     rw [uCb (by omega)]
     exact ⟨⟨q + 1, rfl, rfl, hqr, hro, hol, yes (by simp [e1, e2, e3])⟩, by show rs.length - (q + 1) < rs.length - q; omega, fun _ _ h => h, fun _ _ h => h, trivial⟩
    ·rename_i e3
     exact ⟨trivial, trivial, trivial, trivial, (by trivial), rfl, no (by simp [e1, e2, e3])⟩
   ·rename_i e2
    rw [uEg, if_pos (by omega)]
    refine ⟨uAk hqo, _, nth_cd0 hqo, _, nth_cd1 hqo, _, nth_cd2 hqo, _, nth_cd3 hqo, o[q], rfl, trivial, ?_⟩
    rw [uAe]
    split
    ·rename_i e3
     exact ⟨trivial, trivial, trivial, ⟨(by trivial), trivial⟩, trivial, (by trivial), rfl, no (by simp [e1, e2]; omega)⟩
    ·rename_i e3
     refine ⟨trivial, trivial, trivial, ⟨(by trivial), trivial⟩, trivial, o, Wk.refl _, rs, Wk.refl _, (by trivial), ?_⟩
     rw [uCb (by omega)]
     exact ⟨⟨q + 1, rfl, rfl, hqr, hro, hol, yes (by simp [e1, e2]; omega)⟩, by show rs.length - (q + 1) < rs.length - q; omega, fun _ _ h => h, fun _ _ h => h, trivial⟩
  ·rename_i e1
   exact ⟨trivial, trivial, trivial, (by trivial), rfl, no (by simp [e1])⟩
 ·rename_i h
  have hqr : ¬ q < rs.length := by simpa using h
  refine ⟨trivial, (by trivial), ?_⟩
  show leanF k 0 o rs = true
  rw [hF, List.drop_of_length_le (by omega : rs.length ≤ q)]
  cases o.drop q <;> rfl
theorem leanLOk : uAs PP 12 65 (.loop (uAd PP 12 5)) (leanLC) := uBf leanLMu  mixed (uC8 (uAi lowCc (uAq))) rfl (uAo leanLStep (uAx))
noncomputable def leanT : Tel ((List Cd) × Exa × Int × Unit) := .cons 0 (.lst Ec) (.cons 1 (.aggW Ex) (.ji 2 (.nil)))
theorem leanFn (l : List Cd) (e : Exa) (k : Int) (Q : AV → Prop) : (uA2 PP (runW PP (KL [(26, ordK), (29, mayK), (27, lowK)] [(12, [(5, leanLC)])]) 200) 12 (leanT.cells id (l, e, k, ())) (stE false) (fun x st => frzW st x Q)) = ( ∃ l_1, Wv Ec l l_1 ∧ ordPre (l_1, ()) ∧ ∃ l_2, Wv Ec l l_2 ∧ mayPre (l_2, ()) ∧ ifp (l_2.all mayC) (ifp (!uAf (Int.ofNat e.2.1.length) (Int.ofNat (ordC l_1).length)) (Q (AV.bool false)) (uAs PP 12 65 (uAd PP 12 5).loop leanLC ∧ True ∧ True ∧ ∃ l, Wv Ec (ordC l_1) l ∧ ∃ l_3, Wv En e.2.1 l_3 ∧ true = true ∧ leanLInv ((k, l, l_3, Int.ofNat e.2.1.length, 0, ()), ()) ∧ (∀ (c d : Unit), leanLR0 ((k, l, l_3, Int.ofNat e.2.1.length, 0, ()), ()) c d → Q (AV.bool true)) ∧ (∀ c d, leanLR1 ((k, l, l_3, Int.ofNat e.2.1.length, 0, ()), ()) c d → Q (AV.bool c.1)) ∧ True)) (Q (AV.bool false))) := by kernel_rfl
def leanPre : (List Cd) × Exa × Int × Unit → Prop := fun (l, e, k, ()) => l.length ≤ 1000000
noncomputable def leanRes : (List Cd) × Exa × Int × Unit → AV := fun (l, e, k, ()) => .bool (leanV l e.2.1 k)
noncomputable def leanK : uA6 := valC leanT leanPre leanRes
theorem leanVal (l : List Cd) (e : Exa) (k : Int) (hp : leanPre (l, e, k, ())) : Val PP 12 (leanT.cells id (l, e, k, ())) (leanRes (l, e, k, ())) := by
 refine Val.ofF mixed (uC8 (uAi ordCc (uAi mayCc (uAi lowCc (uAq))))) (uDa rfl _) (leanFn l e k) ?_
 have hl : l.length ≤ 1000000 := hp
 refine ⟨l, Wk.refl _, hl, l, Wk.refl _, by show l.length < _; omega, ?_⟩
 cases hm : l.all mayC with
 | false => rw [uDn rfl]; exact uBk (by rw [leanV, hm]; rfl)
 | true =>
  rw [uAj rfl, uAe]
  have ho : (ordC l).length ≤ 1000000 := by rw [ordC, if_pos hm, sortR, Stab.uDr]; exact hl
  split
  ·rename_i h
   exact uBk (by rw [leanV, hm, decide_eq_false (by simp only [Int.ofNat_eq_natCast] at h; omega)]; rfl)
  ·rename_i h
   have hle : e.2.1.length ≤ (ordC l).length := by simp only [Int.ofNat_eq_natCast] at h; omega
   refine ⟨leanLOk, trivial, trivial, ordC l, Wk.refl _, e.2.1, Wk.refl _, (by trivial), ⟨0, rfl, rfl, Nat.zero_le _, hle, ho, rfl⟩, fun _ _ hr => ?_, fun c _ hr => ?_, trivial⟩
   ·have hr' : leanF k 0 (ordC l) e.2.1 = true := hr
    exact uBk (by rw [leanV, hm, decide_eq_true hle, hr']; rfl)
   ·obtain ⟨b, _⟩ := c
    obtain ⟨rfl, hr'⟩ := hr
    exact uBk (by rw [leanV, hm, decide_eq_true hle, hr']; rfl)
theorem leanCc : CcOk PP 12 leanK := uC2 rfl (fun ⟨l, ⟨e, ⟨k, _⟩⟩⟩ h => leanVal l e k h)
end Go.Proofs.YteehkdejkemnmacDoor
namespace Go.Proofs.YteehkdejkemnmacDoor
open Go.Det Go.RowKit
set_option maxRecDepth 100000
def getV (V : List (List Int)) (s : Int) : Option (List Int) := if s < 0 then none else V[s.toNat]?
noncomputable def readV (fr : List Int) (V : List (List Int)) (c : Cd) : Near × Int :=
 match getV V c.2.2.2.1 with
 | none => ((0, 0, ()), 6)
 | some v => ((uBn fr (uAv v), c.1, ()), pairV fr (uAv v))
theorem read_none {fr : List Int} {V : List (List Int)} {c : Cd} (h : c.2.2.2.1 < 0 ∨ (V.length : Int) ≤ c.2.2.2.1) : ((0, 0, ()), 6) = readV fr V c := by
 rw [readV, getV]
 split
 ·rfl
 ·rename_i v hv
  split at hv
  ·cases hv
  ·rw [List.getElem?_eq_none (by omega)] at hv; cases hv
theorem read_some {fr : List Int} {V : List (List Int)} {c : Cd} {n : Nat} (h : c.2.2.2.1 = n) (hn : n < V.length) : ((uBn fr (uAv V[n]), c.1, ()), pairV fr (uAv V[n])) = readV fr V c := by
 rw [readV, getV, h, if_neg (by omega), show ((n : Int)).toNat = n from rfl, List.getElem?_eq_getElem hn]
theorem cond_t {b x y : Bool} (h : cond b x y = true) (hb : b = true) : x = true := by subst hb; exact h
theorem cond_f {b x y : Bool} (h : cond b x y = true) (hb : b = false) : y = true := by subst hb; exact h
theorem flat_get : ∀ {V : List (List Int)} {D n : Nat} (h : ∀ v ∈ V, v.length = D) (hn : n < V.length), (V.flatten.drop (n * D)).take D = V[n]
 | v :: V, D, 0, h, _ => by
  have := h v (by simp)
  rw [Nat.zero_mul, List.drop_zero, List.flatten_cons, List.take_append_of_le_length (by omega), List.take_of_length_le (by omega)]; rfl
 | v :: V, D, n + 1, h, hn => by
  have := h v (by simp)
  rw [List.flatten_cons, Nat.succ_mul, List.drop_append, List.drop_of_length_le (by rw [this]; exact Nat.le_add_left _ _), this, List.nil_append, Nat.add_sub_cancel]
  exact flat_get (fun w hw => h w (by simp [hw])) (by simpa using hn)
abbrev qReEt2 := Int × Int × Int × (Nat × Nat) × (Nat × Nat) × Unit × Unit
abbrev qReEt0 := (Unit × Unit) × ((List Int) × Unit) × qReEt2 × (List Int) × (List Int) × Unit
abbrev qReEt1 := Cd × Unit × Unit × Unit
abbrev rdNZ := qReEt1 × qReEt0
noncomputable def rdNT : Tel qReEt1 := .cons 0 (.agg Ec) (.cons 1 (.ptr 0) (.cons 2 (.ptr 1) (.nil)))
noncomputable abbrev qReEr1 := Bk.row (.cons 0 (.lst Ei32) (.nil))
noncomputable abbrev qReEr2 := Bk.row (.cons 0 (.ptr 2) (.nil))
noncomputable def rdNBl : BTel qReEt0 := .cons qReEr2 (.cons qReEr1 (.cons (.row (.ji 0 (.ji 1 (.ji 2 (.cons 3 (.slq 3 1) (.cons 4 (.slq 4 1) (.cons 5 (.nilS) (.nil)))))))) (.cons (.rows Eu64 89) (.cons (.rows Ei16 27) (.nil)))))
abbrev qReE0 := Near × Int × Unit
abbrev qReE1 := (Unit × Unit) × ((List Int) × Unit) × qReEt2 × (List Int) × (List Int) × Unit
abbrev qReE2 := (Unit × Unit) × ((List Int) × Unit) × (Int × Int × Int × (Nat × Nat) × (Nat × Nat) × (List Int) × Unit) × (List Int) × (List Int) × Unit × Unit
noncomputable abbrev qReEr0 := Bk.row (.ji 0 (.ji 1 (.ji 2 (.cons 3 (.slq 3 1) (.cons 4 (.slq 4 1) (.cons 5 (.own Ei64 5) (.nil)))))))
noncomputable def rdNRes (R0 : rdNZ → qReE0 → qReE1 → Prop) (R1 : rdNZ → qReE0 → qReE2 → Prop) : List (Res rdNZ) := [⟨Near × Int × Unit, qReE1, .cons 0 (.agg En) (.ji 1 (.nil)), .cons qReEr2 (.cons qReEr1 (.cons (.row (.ji 0 (.ji 1 (.ji 2 (.cons 3 (.slq 3 1) (.cons 4 (.slq 4 1) (.cons 5 (.nilS) (.nil)))))))) (.cons (.rows Eu64 89) (.cons (.rows Ei16 27) (.nil))))), R0⟩, ⟨Near × Int × Unit, qReE2, .cons 0 (.agg En) (.ji 1 (.nil)), .cons qReEr2 (.cons qReEr1 (.cons qReEr0 (.cons (.rows Eu64 89) (.cons (.rows Ei16 27) (.cons (.spare) (.nil)))))), R1⟩]
abbrev zrdN (u : Cd) (f : List Int) (d r c : Int) (t a : Nat × Nat) (T A : List Int) : rdNZ := ((u, (), (), ()), ((), ()), (f, ()), (d, r, c, t, a, (), ()), T, A, ())
noncomputable abbrev qReEk0 := KLX [(39, wideK), (42, distK)] [] [89, 27] [] []
theorem rdNFn (u : Cd) (f : List Int) (d r c : Int) (t a : Nat × Nat) (T A : List Int) (R0 : rdNZ → qReE0 → qReE1 → Prop) (R1 : rdNZ → qReE0 → qReE2 → Prop) : (uA2 PP (runW PP qReEk0 200) 40 (rdNT.cells id (u, (), (), ())) (stL true (rdNBl.obs id (((), ()), (f, ()), (d, r, c, t, a, (), ()), T, A, ()))) (fun v st => uA1 5 (zrdN u f d r c t a T A) v st (rdNRes R0 R1))) = ( ifp (uAf 0 u.2.2.2.1) ((64 : Int) ≠ 0 ∧ ifp (!uAf (Int.ofNat t.1) (uAa .i64 (u.2.2.2.1.tdiv 64))) ((64 : Int) ≠ 0 ∧ uAp (uAa .i64 (u.2.2.2.1.tdiv 64)) t.1 ∧ ∃ x : Int, nth (Nat.add 0 ((uAc (uAa .i64 (u.2.2.2.1.tdiv 64))).mul 1)) (T.flatMap Eu64.f) = some (AV.int .u64 x) ∧ (64 : Int) ≠ 0 ∧ (0 : Int) ≤ u.2.2.2.1.tmod 64 ∧ ifp (uA0 (uAa .u64 (Int.ofNat ((uAc (uns (uEa .u64) (shrV .u64 x (u.2.2.2.1.tmod 64)))).land (uAc (uns (uEa .u64) 1))))) 1) (1 ≤ 1 ∧ (0 : Int) ≤ uAa .i64 ((uAa .i64 (u.2.2.2.1.add 1)).mul d) ∧ uAa .i64 ((uAa .i64 (u.2.2.2.1.add 1)).mul d) ≤ ↑a.2 ∧ (0 : Int) ≤ uAa .i64 ((uAa .i64 (u.2.2.2.1.add 1)).mul d) ∧ uAa .i64 ((uAa .i64 (u.2.2.2.1.add 1)).mul d) ≤ ↑(uAc (uAa .i64 ((uAa .i64 (u.2.2.2.1.add 1)).mul d))) ∧ (0 : Int) ≤ uAa .i64 (u.2.2.2.1.mul d) ∧ uAa .i64 (u.2.2.2.1.mul d) ≤ ↑(uAc (uAa .i64 ((uAa .i64 (u.2.2.2.1.add 1)).mul d))) ∧ True ∧ True ∧ True ∧ True ∧ True ∧ (Nat.add 0 ((uAc (uAa .i64 (u.2.2.2.1.mul d))).mul 1)).add (((uAc (uAa .i64 ((uAa .i64 (u.2.2.2.1.add 1)).mul d))).sub (uAc (uAa .i64 (u.2.2.2.1.mul d)))).mul 1) ≤ (A.flatMap Ei16.f).length ∧ ifp (uAm (List.take (((uAc (uAa .i64 ((uAa .i64 (u.2.2.2.1.add 1)).mul d))).sub (uAc (uAa .i64 (u.2.2.2.1.mul d)))).mul 1) (List.drop (Nat.add 0 ((uAc (uAa .i64 (u.2.2.2.1.mul d))).mul 1)) (A.flatMap Ei16.f))) && true) (ifp (roomy (Nat.add 0 ((uAc (uAa .i64 ((uAa .i64 (u.2.2.2.1.add 1)).mul d))).sub (uAc (uAa .i64 (u.2.2.2.1.mul d))))) 2) (∃ (l : List Int), Wk (AV.vs ([] ++ List.take (((uAc (uAa .i64 ((uAa .i64 (u.2.2.2.1.add 1)).mul d))).sub (uAc (uAa .i64 (u.2.2.2.1.mul d)))).mul 1) (List.drop (Nat.add 0 ((uAc (uAa .i64 (u.2.2.2.1.mul d))).mul 1)) (A.flatMap Ei16.f))) (Nat.add 0 ((uAc (uAa .i64 ((uAa .i64 (u.2.2.2.1.add 1)).mul d))).sub (uAc (uAa .i64 (u.2.2.2.1.mul d))))) (Nat.add 0 ((uAc (uAa .i64 ((uAa .i64 (u.2.2.2.1.add 1)).mul d))).sub (uAc (uAa .i64 (u.2.2.2.1.mul d))))) false (some 36) 1) (lst Ei16 l) ∧ widePre (l, ()) ∧ ∃ l_1, Wv Ei32 f l_1 ∧ ∃ l_2, Wv Ei32 (uAv l) l_2 ∧ distPre (l_1, l_2, ()) ∧ (AV.vs (f.flatMap Ei32.f) f.length f.length false none 1 = AV.vs (f.flatMap Ei32.f) f.length f.length false none 1 ∧ True) ∧ ((∃ (a : Near), AV.agg [I64 (uBn l_1 l_2), I64 u.1] = AV.agg [I64 a.1, I64 a.2.1] ∧ ∃ l, Wv Ei32 f l ∧ False) ∨ ∃ (a_1 : Near), AV.agg [I64 (uBn l_1 l_2), I64 u.1] = AV.agg [I64 a_1.1, I64 a_1.2.1] ∧ ∃ l, Wv Ei32 f l ∧ ∃ (l_3 : List Int), (WkL [I64 u.2.2.2.1] (l_3.flatMap Ei64.f) ∧ 1 = l_3.length ∧ 1 = 1) ∧ ∃ l_4, Sa Eu64 T l_4 ∧ ∃ l_5, Sa Ei16 A l_5 ∧ true = true ∧ R1 (zrdN u f d r c t a T A) (a_1, pairV l_1 l_2, ()) (((), ()), (l, ()), (d, r, c, t, a, l_3, ()), l_4, l_5, (), ()))) False) False) ((∃ a_1 : Near, Ag2 0 0 a_1 ∧ ∃ l, Wv Ei32 f l ∧ ∃ l_1, Sa Eu64 T l_1 ∧ ∃ l_2, Sa Ei16 A l_2 ∧ true = true ∧ R0 (zrdN u f d r c t a T A) (a_1, 6, ()) (((), ()), (l, ()), (d, r, c, t, a, (), ()), l_1, l_2, ())) ∨ ∃ a : Near, Ag2 0 0 a ∧ ∃ l, Wv Ei32 f l ∧ False)) ((∃ a_1 : Near, Ag2 0 0 a_1 ∧ ∃ l, Wv Ei32 f l ∧ ∃ l_1, Sa Eu64 T l_1 ∧ ∃ l_2, Sa Ei16 A l_2 ∧ true = true ∧ R0 (zrdN u f d r c t a T A) (a_1, 6, ()) (((), ()), (l, ()), (d, r, c, t, a, (), ()), l_1, l_2, ())) ∨ ∃ a : Near, Ag2 0 0 a ∧ ∃ l, Wv Ei32 f l ∧ False)) ((∃ a_1 : Near, Ag2 0 0 a_1 ∧ ∃ l, Wv Ei32 f l ∧ ∃ l_1, Sa Eu64 T l_1 ∧ ∃ l_2, Sa Ei16 A l_2 ∧ true = true ∧ R0 (zrdN u f d r c t a T A) (a_1, 6, ()) (((), ()), (l, ()), (d, r, c, t, a, (), ()), l_1, l_2, ())) ∨ ∃ a : Near, Ag2 0 0 a ∧ ∃ l, Wv Ei32 f l ∧ False)) := by kernel_rfl
def rdNPre : rdNZ → Prop := fun ((u, (), (), ()), ((), ()), (f, ()), (d, r, c, t, a, (), ()), T, A, ()) => u.2.2.2.1 < 9223372036854775808 ∧ ∃ V, SlOk d r c t a T A V
def rdNR0 : rdNZ → qReE0 → qReE1 → Prop := fun ((u, (), (), ()), ((), ()), (f, ()), (d, r, c, t, a, (), ()), T, A, ()) (w, e, _) (_, (f2, _), (d2, r2, c2, t2, a2, _), T2, A2, _) => d2 = d ∧ r2 = r ∧ c2 = c ∧ t2 = t ∧ a2 = a ∧ f2 = f ∧ T2 = T ∧ A2 = A∧ e = 6∧ ∀ V, SlOk d r c t a T A V → (w, e) = readV f V u
def rdNR1 : rdNZ → qReE0 → qReE2 → Prop := fun ((u, (), (), ()), ((), ()), (f, ()), (d, r, c, t, a, (), ()), T, A, ()) (w, e, _) (_, (f2, _), (d2, r2, c2, t2, a2, x2, _), T2, A2, _) => d2 = d ∧ r2 = r ∧ c2 = c ∧ t2 = t ∧ a2 = a ∧ f2 = f ∧ T2 = T ∧ A2 = A∧ x2.length ≤ 1∧ ∀ V, SlOk d r c t a T A V → (w, e) = readV f V u
noncomputable def rdNK : uA6 := uD4 5 rdNT rdNBl rdNPre (rdNRes rdNR0 rdNR1)
theorem rdNStep (z : rdNZ) (hp : rdNPre z) : uA2 PP (runW PP qReEk0 200) 40 (rdNT.cells id z.1) (stL true (rdNBl.obs id z.2)) (fun v st => uA1 5 z v st (rdNRes rdNR0 rdNR1)) := by
 obtain ⟨⟨u, _, _, _⟩, ⟨⟨_, _⟩, ⟨f, _⟩, ⟨d, r, c, t, a, _, _⟩, T, A, _⟩⟩ := z
 refine (rdNFn u f d r c t a T A _ _).mpr ?_
 obtain ⟨hs, V, hV⟩ := hp
 obtain ⟨ui, ua, ub, us, _⟩ := u
 have hs' : us < 9223372036854775808 := hs
 have hVs := hV
 obtain ⟨⟨d1, d2⟩, rfl, hl, hc, rfl, rfl, rfl, hA, hv⟩ := hVs
 dsimp only
 rw [uEg]
 split
 ·rename_i h0
  obtain ⟨n, rfl⟩ := Int.eq_ofNat_of_zero_le h0
  refine ⟨by decide, ?_⟩
  have e5 : uAa .i64 (Int.tdiv (n : Int) 64) = ((n / 64 : Nat) : Int) := by
   rw [show Int.tdiv (n : Int) 64 = ((n / 64 : Nat) : Int) from rfl, w64 (by omega) (by omega)]
  rw [e5, uAe]
  split
  ·rename_i h1
   have hn64 : n < 64 := by simp only [Int.ofNat_eq_natCast] at h1; omega
   have e6 : Int.tmod (n : Int) 64 = (n : Int) := by
    rw [show Int.tmod (n : Int) 64 = ((n % 64 : Nat) : Int) from rfl, Nat.mod_eq_of_lt hn64]
   have e7 : n / 64 = 0 := by omega
   have hH := allB2_at onesH (show V.length < 64 by omega) hn64
   rw [e6, e7]
   refine ⟨by decide, ⟨by decide, by decide⟩, ones V.length, rfl, by decide, by omega, ?_⟩
   rw [uCz]
   split
   ·rename_i h2
    have hnV : n < V.length := uBt (cond_t hH (uBj.2 h2))
    obtain ⟨D, rfl⟩ := Int.eq_ofNat_of_zero_le (show 0 ≤ d by omega)
    have hvD : ∀ v ∈ V, v.length = D := fun v hm => by have := hv v hm; omega
    have hAl : A.length = V.length * D := by rw [hA]; exact flat_len hvD
    have hnD : (n + 1) * D ≤ V.length * D := Nat.mul_le_mul_right _ hnV
    have hVD : V.length * D ≤ 60 * 1024 := Nat.mul_le_mul (by omega) (by omega)
    have hs1 : (n + 1) * D = n * D + D := Nat.succ_mul _ _
    have e1 : uAa .i64 (Int.add (n : Int) 1) = ((n + 1 : Nat) : Int) := uCb (by omega)
    have e2 : uAa .i64 (Int.mul ((n + 1 : Nat) : Int) (D : Int)) = (((n + 1) * D : Nat) : Int) := wmulN (by omega)
    have e3 : uAa .i64 (Int.mul (n : Int) (D : Int)) = ((n * D : Nat) : Int) := wmulN (by omega)
    have hA2 : (A.flatMap Ei16.f).length = A.length := by rw [Enc.flen Ei16 A]; exact Nat.mul_one _
    have hsub : Nat.sub ((n + 1) * D) (n * D) = D := by show (n + 1) * D - n * D = D; omega
    have hcut : List.take (Nat.mul D 1) (List.drop (Nat.add 0 (Nat.mul (n * D) 1)) (A.flatMap Ei16.f)) = ((A.drop (n * D)).take D).flatMap Ei16.f := by
     rw [show Nat.mul D 1 = D from Nat.mul_one _, show Nat.add 0 (Nat.mul (n * D) 1) = n * D by show 0 + n * D * 1 = _; omega, fdrop1 (E := Ei16) rfl, ftake1 (E := Ei16) rfl]
    have hvl : ((A.drop (n * D)).take D).length = D := by rw [List.length_take, List.length_drop]; omega
    simp only [e1, e2, e3, uAt, hsub, hcut]
    refine ⟨Nat.le_refl _, ?_⟩
    refine ⟨by omega, by show _ ≤ ((A.length : Nat) : Int); omega, by omega, by omega, by omega, by omega, trivial, trivial, trivial, trivial, trivial, by rw [hA2]; show 0 + n * D * 1 + D * 1 ≤ _; omega, ?_⟩
    rw [uAj (by rw [Enc.fscal Ei16]; rfl), uAj (uAg (by show 0 + D ≤ _; omega) (by decide))]
    refine ⟨(A.drop (n * D)).take D, wk_vs ⟨rfl, by rw [hvl]; exact Nat.zero_add _, rfl⟩, by show _ ≤ 1000000; rw [hvl]; omega, f, Wk.refl _, uAv ((A.drop (n * D)).take D), Wk.refl _, trivial, ⟨(by first | rfl | trivial), trivial⟩, ?_⟩
    refine Or.inr ⟨(uBn f (uAv ((A.drop (n * D)).take D)), ui, ()), rfl, f, Wk.refl _, [(n : Int)], ⟨wkl_one (E := Ei64) ⟨Wk.refl _, trivial⟩, (by first | rfl | trivial), (by first | rfl | trivial)⟩, [ones V.length], rfl, A, rfl, (by first | rfl | trivial), rfl, rfl, rfl, rfl, rfl, rfl, rfl, rfl, by simp, fun V' hV' => ?_⟩
    have hc' : V'.length = V.length := by have := hV'.c1; have := hV.c1; omega
    have hv' : ∀ v ∈ V', v.length = D := fun v hm => by have := hV'.v1 v hm; omega
    have hg := flat_get hv' (show n < V'.length by omega)
    rw [hV'.A1, hg]
    exact read_some (c := (ui, ua, ub, (n : Int), ())) rfl (by omega)
   ·rename_i h2
    have hnV : V.length ≤ n := uBt (cond_f hH (Bool.not_eq_true _ ▸ fun e => h2 (uBj.1 e)))
    exact Or.inl ⟨ (0, 0, ()), rfl, f, Wk.refl _, [ones V.length], rfl, A, rfl, (by first | rfl | trivial), rfl, rfl, rfl, rfl, rfl, rfl, rfl, rfl, rfl, fun V' hV' => read_none (by have := hV'.c1; have := hV.c1; show _ ∨ _; simp only; omega)⟩
  ·rename_i h1
   have hn64 : 64 ≤ n := by simp only [Int.ofNat_eq_natCast] at h1; omega
   exact Or.inl ⟨ (0, 0, ()), rfl, f, Wk.refl _, [ones V.length], rfl, A, rfl, (by first | rfl | trivial), rfl, rfl, rfl, rfl, rfl, rfl, rfl, rfl, rfl, fun V' hV' => read_none (by have := hV'.c1; have := hV.c1; show _ ∨ _; simp only; omega)⟩
 ·rename_i h0
  exact Or.inl ⟨ (0, 0, ()), rfl, f, Wk.refl _, [ones V.length], rfl, A, rfl, (by first | rfl | trivial), rfl, rfl, rfl, rfl, rfl, rfl, rfl, rfl, rfl, fun V' hV' => read_none (by have := hV'.c1; have := hV.c1; show _ ∨ _; simp only; omega)⟩
theorem rdNCc : CcOk PP 40 rdNK := uB4 mixed (uDp (uAi wideCc (uAi distCc (uAq)))) rfl rdNStep
abbrev rdOZ := qReEt1 × qReE2
noncomputable def rdOT : Tel qReEt1 := .cons 0 (.agg Ec) (.cons 1 (.ptr 0) (.cons 2 (.ptr 1) (.nil)))
noncomputable def rdOBl : BTel qReE2 := .cons qReEr2 (.cons qReEr1 (.cons qReEr0 (.cons (.rows Eu64 89) (.cons (.rows Ei16 27) (.cons (.spare) (.nil))))))
noncomputable def rdORes (R0 : rdOZ → qReE0 → qReE2 → Prop) : List (Res rdOZ) := [⟨Near × Int × Unit, qReE2, .cons 0 (.agg En) (.ji 1 (.nil)), .cons qReEr2 (.cons qReEr1 (.cons qReEr0 (.cons (.rows Eu64 89) (.cons (.rows Ei16 27) (.cons (.spare) (.nil)))))), R0⟩]
abbrev zrdO (u : Cd) (f : List Int) (d r c : Int) (t a : Nat × Nat) (x T A : List Int) : rdOZ := ((u, (), (), ()), ((), ()), (f, ()), (d, r, c, t, a, x, ()), T, A, (), ())
theorem rdOFn (u : Cd) (f : List Int) (d r c : Int) (t a : Nat × Nat) (x T A : List Int) (R0 : rdOZ → qReE0 → qReE2 → Prop) : (uA2 PP (runW PP qReEk0 200) 40 (rdOT.cells id (u, (), (), ())) (stL true (rdOBl.obs id (((), ()), (f, ()), (d, r, c, t, a, x, ()), T, A, (), ()))) (fun v st => uA1 5 (zrdO u f d r c t a x T A) v st (rdORes R0))) = ( ifp (uAf 0 u.2.2.2.1) ((64 : Int) ≠ 0 ∧ ifp (!uAf (Int.ofNat t.1) (uAa .i64 (u.2.2.2.1.tdiv 64))) ((64 : Int) ≠ 0 ∧ uAp (uAa .i64 (u.2.2.2.1.tdiv 64)) t.1 ∧ ∃ x_1 : Int, nth (Nat.add 0 ((uAc (uAa .i64 (u.2.2.2.1.tdiv 64))).mul 1)) (T.flatMap Eu64.f) = some (AV.int .u64 x_1) ∧ (64 : Int) ≠ 0 ∧ (0 : Int) ≤ u.2.2.2.1.tmod 64 ∧ ifp (uA0 (uAa .u64 (Int.ofNat ((uAc (uns (uEa .u64) (shrV .u64 x_1 (u.2.2.2.1.tmod 64)))).land (uAc (uns (uEa .u64) 1))))) 1) (1 ≤ 1 ∧ ifp (roomy (x.length.add 1) 8) ((0 : Int) ≤ uAa .i64 ((uAa .i64 (u.2.2.2.1.add 1)).mul d) ∧ uAa .i64 ((uAa .i64 (u.2.2.2.1.add 1)).mul d) ≤ ↑a.2 ∧ (0 : Int) ≤ uAa .i64 ((uAa .i64 (u.2.2.2.1.add 1)).mul d) ∧ uAa .i64 ((uAa .i64 (u.2.2.2.1.add 1)).mul d) ≤ ↑(uAc (uAa .i64 ((uAa .i64 (u.2.2.2.1.add 1)).mul d))) ∧ (0 : Int) ≤ uAa .i64 (u.2.2.2.1.mul d) ∧ uAa .i64 (u.2.2.2.1.mul d) ≤ ↑(uAc (uAa .i64 ((uAa .i64 (u.2.2.2.1.add 1)).mul d))) ∧ True ∧ True ∧ True ∧ True ∧ True ∧ (Nat.add 0 ((uAc (uAa .i64 (u.2.2.2.1.mul d))).mul 1)).add (((uAc (uAa .i64 ((uAa .i64 (u.2.2.2.1.add 1)).mul d))).sub (uAc (uAa .i64 (u.2.2.2.1.mul d)))).mul 1) ≤ (A.flatMap Ei16.f).length ∧ ifp (uAm (List.take (((uAc (uAa .i64 ((uAa .i64 (u.2.2.2.1.add 1)).mul d))).sub (uAc (uAa .i64 (u.2.2.2.1.mul d)))).mul 1) (List.drop (Nat.add 0 ((uAc (uAa .i64 (u.2.2.2.1.mul d))).mul 1)) (A.flatMap Ei16.f))) && true) (ifp (roomy (Nat.add 0 ((uAc (uAa .i64 ((uAa .i64 (u.2.2.2.1.add 1)).mul d))).sub (uAc (uAa .i64 (u.2.2.2.1.mul d))))) 2) (∃ (l : List Int), Wk (AV.vs ([] ++ List.take (((uAc (uAa .i64 ((uAa .i64 (u.2.2.2.1.add 1)).mul d))).sub (uAc (uAa .i64 (u.2.2.2.1.mul d)))).mul 1) (List.drop (Nat.add 0 ((uAc (uAa .i64 (u.2.2.2.1.mul d))).mul 1)) (A.flatMap Ei16.f))) (Nat.add 0 ((uAc (uAa .i64 ((uAa .i64 (u.2.2.2.1.add 1)).mul d))).sub (uAc (uAa .i64 (u.2.2.2.1.mul d))))) (Nat.add 0 ((uAc (uAa .i64 ((uAa .i64 (u.2.2.2.1.add 1)).mul d))).sub (uAc (uAa .i64 (u.2.2.2.1.mul d))))) false (some 37) 1) (lst Ei16 l) ∧ widePre (l, ()) ∧ ∃ l_1, Wv Ei32 f l_1 ∧ ∃ l_2, Wv Ei32 (uAv l) l_2 ∧ distPre (l_1, l_2, ()) ∧ (AV.vs (f.flatMap Ei32.f) f.length f.length false none 1 = AV.vs (f.flatMap Ei32.f) f.length f.length false none 1 ∧ True) ∧ ∃ (a_1 : Near), AV.agg [I64 (uBn l_1 l_2), I64 u.1] = AV.agg [I64 a_1.1, I64 a_1.2.1] ∧ ∃ l, Wv Ei32 f l ∧ ∃ (l_3 : List Int), (WkL (x.flatMap Ei64.f ++ [I64 u.2.2.2.1]) (l_3.flatMap Ei64.f) ∧ x.length.add 1 = l_3.length ∧ 1 = 1) ∧ ∃ l_4, Sa Eu64 T l_4 ∧ ∃ l_5, Sa Ei16 A l_5 ∧ true = true ∧ R0 (zrdO u f d r c t a x T A) (a_1, pairV l_1 l_2, ()) (((), ()), (l, ()), (d, r, c, t, a, l_3, ()), l_4, l_5, (), ())) False) False) False) (∃ a_1 : Near, Ag2 0 0 a_1 ∧ ∃ l, Wv Ei32 f l ∧ ∃ l_1, Ow Ei64 x l_1 1 ∧ ∃ l_2, Sa Eu64 T l_2 ∧ ∃ l_3, Sa Ei16 A l_3 ∧ true = true ∧ R0 (zrdO u f d r c t a x T A) (a_1, 6, ()) (((), ()), (l, ()), (d, r, c, t, a, l_1, ()), l_2, l_3, (), ()))) (∃ a_1 : Near, Ag2 0 0 a_1 ∧ ∃ l, Wv Ei32 f l ∧ ∃ l_1, Ow Ei64 x l_1 1 ∧ ∃ l_2, Sa Eu64 T l_2 ∧ ∃ l_3, Sa Ei16 A l_3 ∧ true = true ∧ R0 (zrdO u f d r c t a x T A) (a_1, 6, ()) (((), ()), (l, ()), (d, r, c, t, a, l_1, ()), l_2, l_3, (), ()))) (∃ a_1 : Near, Ag2 0 0 a_1 ∧ ∃ l, Wv Ei32 f l ∧ ∃ l_1, Ow Ei64 x l_1 1 ∧ ∃ l_2, Sa Eu64 T l_2 ∧ ∃ l_3, Sa Ei16 A l_3 ∧ true = true ∧ R0 (zrdO u f d r c t a x T A) (a_1, 6, ()) (((), ()), (l, ()), (d, r, c, t, a, l_1, ()), l_2, l_3, (), ()))) := by kernel_rfl
def rdOPre : rdOZ → Prop := fun ((u, (), (), ()), ((), ()), (f, ()), (d, r, c, t, a, x, ()), T, A, (), ()) => u.2.2.2.1 < 9223372036854775808 ∧ x.length ≤ 999999 ∧ ∃ V, SlOk d r c t a T A V
def rdOR0 : rdOZ → qReE0 → qReE2 → Prop := fun ((u, (), (), ()), ((), ()), (f, ()), (d, r, c, t, a, x, ()), T, A, (), ()) (w, e, _) (_, (f2, _), (d2, r2, c2, t2, a2, x2, _), T2, A2, _) => d2 = d ∧ r2 = r ∧ c2 = c ∧ t2 = t ∧ a2 = a ∧ f2 = f ∧ T2 = T ∧ A2 = A∧ x2.length ≤ x.length + 1∧ ∀ V, SlOk d r c t a T A V → (w, e) = readV f V u
noncomputable def rdOK : uA6 := uD4 5 rdOT rdOBl rdOPre (rdORes rdOR0)
theorem rdOStep (z : rdOZ) (hp : rdOPre z) : uA2 PP (runW PP qReEk0 200) 40 (rdOT.cells id z.1) (stL true (rdOBl.obs id z.2)) (fun v st => uA1 5 z v st (rdORes rdOR0)) := by
 obtain ⟨⟨u, _, _, _⟩, ⟨⟨_, _⟩, ⟨f, _⟩, ⟨d, r, c, t, a, x, _⟩, T, A, _, _⟩⟩ := z
 refine (rdOFn u f d r c t a x T A _).mpr ?_
 obtain ⟨hs, hx, V, hV⟩ := hp
 obtain ⟨ui, ua, ub, us, _⟩ := u
 have hs' : us < 9223372036854775808 := hs
 have hVs := hV
 obtain ⟨⟨d1, d2⟩, rfl, hl, hc, rfl, rfl, rfl, hA, hv⟩ := hVs
 dsimp only
 rw [uEg]
 split
 ·rename_i h0
  obtain ⟨n, rfl⟩ := Int.eq_ofNat_of_zero_le h0
  refine ⟨by decide, ?_⟩
  have e5 : uAa .i64 (Int.tdiv (n : Int) 64) = ((n / 64 : Nat) : Int) := by
   rw [show Int.tdiv (n : Int) 64 = ((n / 64 : Nat) : Int) from rfl, w64 (by omega) (by omega)]
  rw [e5, uAe]
  split
  ·rename_i h1
   have hn64 : n < 64 := by simp only [Int.ofNat_eq_natCast] at h1; omega
   have e6 : Int.tmod (n : Int) 64 = (n : Int) := by
    rw [show Int.tmod (n : Int) 64 = ((n % 64 : Nat) : Int) from rfl, Nat.mod_eq_of_lt hn64]
   have e7 : n / 64 = 0 := by omega
   have hH := allB2_at onesH (show V.length < 64 by omega) hn64
   rw [e6, e7]
   refine ⟨by decide, ⟨by decide, by decide⟩, ones V.length, rfl, by decide, by omega, ?_⟩
   rw [uCz]
   split
   ·rename_i h2
    have hnV : n < V.length := uBt (cond_t hH (uBj.2 h2))
    obtain ⟨D, rfl⟩ := Int.eq_ofNat_of_zero_le (show 0 ≤ d by omega)
    have hvD : ∀ v ∈ V, v.length = D := fun v hm => by have := hv v hm; omega
    have hAl : A.length = V.length * D := by rw [hA]; exact flat_len hvD
    have hnD : (n + 1) * D ≤ V.length * D := Nat.mul_le_mul_right _ hnV
    have hVD : V.length * D ≤ 60 * 1024 := Nat.mul_le_mul (by omega) (by omega)
    have hs1 : (n + 1) * D = n * D + D := Nat.succ_mul _ _
    have e1 : uAa .i64 (Int.add (n : Int) 1) = ((n + 1 : Nat) : Int) := uCb (by omega)
    have e2 : uAa .i64 (Int.mul ((n + 1 : Nat) : Int) (D : Int)) = (((n + 1) * D : Nat) : Int) := wmulN (by omega)
    have e3 : uAa .i64 (Int.mul (n : Int) (D : Int)) = ((n * D : Nat) : Int) := wmulN (by omega)
    have hA2 : (A.flatMap Ei16.f).length = A.length := by rw [Enc.flen Ei16 A]; exact Nat.mul_one _
    have hsub : Nat.sub ((n + 1) * D) (n * D) = D := by show (n + 1) * D - n * D = D; omega
    have hcut : List.take (Nat.mul D 1) (List.drop (Nat.add 0 (Nat.mul (n * D) 1)) (A.flatMap Ei16.f)) = ((A.drop (n * D)).take D).flatMap Ei16.f := by
     rw [show Nat.mul D 1 = D from Nat.mul_one _, show Nat.add 0 (Nat.mul (n * D) 1) = n * D by show 0 + n * D * 1 = _; omega, fdrop1 (E := Ei16) rfl, ftake1 (E := Ei16) rfl]
    have hvl : ((A.drop (n * D)).take D).length = D := by rw [List.length_take, List.length_drop]; omega
    simp only [e1, e2, e3, uAt, hsub, hcut]
    refine ⟨Nat.le_refl _, ?_⟩
    rw [uAj (uAg (by show x.length + 1 ≤ _; omega) (by decide))]
    refine ⟨by omega, by show _ ≤ ((A.length : Nat) : Int); omega, by omega, by omega, by omega, by omega, trivial, trivial, trivial, trivial, trivial, by rw [hA2]; show 0 + n * D * 1 + D * 1 ≤ _; omega, ?_⟩
    rw [uAj (by rw [Enc.fscal Ei16]; rfl), uAj (uAg (by show 0 + D ≤ _; omega) (by decide))]
    refine ⟨(A.drop (n * D)).take D, wk_vs ⟨rfl, by rw [hvl]; exact Nat.zero_add _, rfl⟩, by show _ ≤ 1000000; rw [hvl]; omega, f, Wk.refl _, uAv ((A.drop (n * D)).take D), Wk.refl _, trivial, ⟨(by first | rfl | trivial), trivial⟩, ?_⟩
    refine ⟨(uBn f (uAv ((A.drop (n * D)).take D)), ui, ()), rfl, f, Wk.refl _, x ++ [(n : Int)], ⟨wkl_snoc (E := Ei64) ⟨Wk.refl _, trivial⟩, len_snoc, (by first | rfl | trivial)⟩, [ones V.length], rfl, A, rfl, (by first | rfl | trivial), rfl, rfl, rfl, rfl, rfl, rfl, rfl, rfl, by simp, fun V' hV' => ?_⟩
    have hc' : V'.length = V.length := by have := hV'.c1; have := hV.c1; omega
    have hv' : ∀ v ∈ V', v.length = D := fun v hm => by have := hV'.v1 v hm; omega
    have hg := flat_get hv' (show n < V'.length by omega)
    rw [hV'.A1, hg]
    exact read_some (c := (ui, ua, ub, (n : Int), ())) rfl (by omega)
   ·rename_i h2
    have hnV : V.length ≤ n := uBt (cond_f hH (Bool.not_eq_true _ ▸ fun e => h2 (uBj.1 e)))
    exact ⟨ (0, 0, ()), rfl, f, Wk.refl _, x, ⟨WkL.refl _, (by first | rfl | trivial), (by first | rfl | trivial)⟩, [ones V.length], rfl, A, rfl, (by first | rfl | trivial), rfl, rfl, rfl, rfl, rfl, rfl, rfl, rfl, Nat.le_succ _, fun V' hV' => read_none (by have := hV'.c1; have := hV.c1; show _ ∨ _; simp only; omega)⟩
  ·rename_i h1
   have hn64 : 64 ≤ n := by simp only [Int.ofNat_eq_natCast] at h1; omega
   exact ⟨ (0, 0, ()), rfl, f, Wk.refl _, x, ⟨WkL.refl _, (by first | rfl | trivial), (by first | rfl | trivial)⟩, [ones V.length], rfl, A, rfl, (by first | rfl | trivial), rfl, rfl, rfl, rfl, rfl, rfl, rfl, rfl, Nat.le_succ _, fun V' hV' => read_none (by have := hV'.c1; have := hV.c1; show _ ∨ _; simp only; omega)⟩
 ·rename_i h0
  exact ⟨ (0, 0, ()), rfl, f, Wk.refl _, x, ⟨WkL.refl _, (by first | rfl | trivial), (by first | rfl | trivial)⟩, [ones V.length], rfl, A, rfl, (by first | rfl | trivial), rfl, rfl, rfl, rfl, rfl, rfl, rfl, rfl, Nat.le_succ _, fun V' hV' => read_none (by have := hV'.c1; have := hV.c1; show _ ∨ _; simp only; omega)⟩
theorem rdOCc : CcOk PP 40 rdOK := uB4 mixed (uDp (uAi wideCc (uAi distCc (uAq)))) rfl rdOStep
noncomputable def rdK : uA6 := orC rdNK rdOK
theorem rdCc : CcOk PP 40 rdK := orC_ok rdNCc rdOCc
end Go.Proofs.YteehkdejkemnmacDoor
namespace Go.Proofs.YteehkdejkemnmacDoor
open Go.Det Go.RowKit
set_option maxRecDepth 100000
noncomputable def exF (fr : List Int) (V : List (List Int)) (k : Int) : List Cd → List Near → List Near → (List Near × List Near) × Int
 | [], L, R => ((L, R), 0)
 | c :: cs, L, R =>
  if (uB2 k L).2 = true ∧ (uB2 k L).1.1 < lowV c then ((L, R), 0)
  else if (readV fr V c).2 ≠ 0 then (([], []), (readV fr V c).2)
  else exF fr V k cs (uBr k L (readV fr V c).1) (R ++ [(c.1, (if (uB2 k L).2 = true then (uB2 k L).1.1 else -1), ())])
abbrev qReFt0 := Unit × Unit × Unit × Unit × Unit × Unit × Unit × (List Cd) × Int × Int × Unit
abbrev qReFt1 := Int × Int × Int × (Nat × Nat) × (Nat × Nat) × (List Int) × Unit
abbrev qReFt2 := Unit × Unit × Unit
abbrev qReFt3 := qReFt1 × (List Int) × (List Int) × Unit × (Unit × Unit) × ((List Int) × Unit) × (Int × (Nat × Nat) × Unit) × (List Near) × (Unit × (List Near) × Unit) × Unit × qReFt2 × Unit
abbrev exLZ := qReFt0 × qReFt3
noncomputable def exLSl : Tel qReFt0 := .cons 2 (.ptr 0) (.cons 8 (.ptr 10) (.cons 11 (.ptr 6) (.cons 13 (.fnb 23 [6]) (.cons 14 (.fnb 24 [6]) (.cons 15 (.fnp 40 [4, 5]) (.cons 16 (.ptr 8) (.cons 50 (.lst Ec) (.ji 51 (.ji 52 (.nil))))))))))
noncomputable abbrev qReFr0 := Bk.row (.ji 0 (.ji 1 (.ji 2 (.cons 3 (.slq 1 1) (.cons 4 (.slq 2 1) (.cons 5 (.own Ei64 3) (.nil)))))))
noncomputable abbrev qReFr3 := Bk.row (.cons 0 (.nilS) (.cons 1 (.nilS) (.nil)))
noncomputable abbrev qReFr4 := Bk.row (.cons 0 (.lst Ei32) (.nil))
noncomputable abbrev qReFr5 := Bk.row (.cons 0 (.ptr 0) (.nil))
noncomputable def exLBl : BTel qReFt3 := .cons qReFr0 (.cons (.rows Eu64 89) (.cons (.rows Ei16 27) (.cons (.spare) (.cons qReFr5 (.cons qReFr4 (.cons (.row (.ji 0 (.cons 1 (.slq 7 2) (.nil)))) (.cons (.rows En 46) (.cons (.row (.cons 0 (.nilS) (.cons 1 (.own En 9) (.nil)))) (.cons (.spare) (.cons qReFr3 (.nil)))))))))))
noncomputable def exLSl0 : Tel qReFt0 := .cons 2 (.ptr 0) (.cons 8 (.ptr 8) (.cons 11 (.ptr 6) (.cons 13 (.fnb 23 [6]) (.cons 14 (.fnb 24 [6]) (.cons 15 (.fnp 40 [4, 5]) (.cons 16 (.ptr 7) (.cons 50 (.lst Ec) (.ji 51 (.ji 52 (.nil))))))))))
abbrev qReFt5 := qReFt1 × (List Int) × (List Int) × Unit × (Unit × Unit) × ((List Int) × Unit) × (Int × Unit × Unit) × qReFt2 × qReFt2 × Unit
noncomputable abbrev qReFr2 := Bk.row (.ji 0 (.cons 1 (.nilS) (.nil)))
noncomputable def exLBl0 : BTel qReFt5 := .cons qReFr0 (.cons (.rows Eu64 89) (.cons (.rows Ei16 27) (.cons (.spare) (.cons qReFr5 (.cons qReFr4 (.cons qReFr2 (.cons qReFr3 (.cons qReFr3 (.nil)))))))))
noncomputable def exLZ0 : qReFt0 → qReFt5 → exLZ := fun ((), (), (), (), (), (), (), o, n, i, ()) ((d, r, c, t, a, x, ()), T, A, (), ((), ()), (f, ()), (k, (), ()), ((), (), ()), ((), (), ()), ()) => (((), (), (), (), (), (), (), o, n, i, ()), (d, r, c, t, a, x, ()), T, A, (), ((), ()), (f, ()), (k, (0, 0), ()), [], ((), [], ()), (), ((), (), ()), ())
noncomputable def exLSl1 : Tel qReFt0 := .cons 2 (.ptr 0) (.cons 8 (.ptr 7) (.cons 11 (.ptr 5) (.cons 13 (.fnb 23 [5]) (.cons 14 (.fnb 24 [5]) (.cons 15 (.fnp 40 [3, 4]) (.cons 16 (.ptr 6) (.cons 50 (.lst Ec) (.ji 51 (.ji 52 (.nil))))))))))
abbrev qReFt6 := Int × Int × Int × (Nat × Nat) × (Nat × Nat) × Unit × Unit
abbrev qReFt4 := qReFt6 × (List Int) × (List Int) × (Unit × Unit) × ((List Int) × Unit) × (Int × Unit × Unit) × qReFt2 × qReFt2 × Unit
noncomputable abbrev qReFr1 := Bk.row (.ji 0 (.ji 1 (.ji 2 (.cons 3 (.slq 1 1) (.cons 4 (.slq 2 1) (.cons 5 (.nilS) (.nil)))))))
noncomputable def exLBl1 : BTel qReFt4 := .cons qReFr1 (.cons (.rows Eu64 89) (.cons (.rows Ei16 27) (.cons qReFr5 (.cons qReFr4 (.cons qReFr2 (.cons qReFr3 (.cons qReFr3 (.nil))))))))
noncomputable def exLZ1 : qReFt0 → qReFt4 → exLZ := fun ((), (), (), (), (), (), (), o, n, i, ()) ((d, r, c, t, a, (), ()), T, A, ((), ()), (f, ()), (k, (), ()), ((), (), ()), ((), (), ()), ()) => (((), (), (), (), (), (), (), o, n, i, ()), (d, r, c, t, a, [], ()), T, A, (), ((), ()), (f, ()), (k, (0, 0), ()), [], ((), [], ()), (), ((), (), ()), ())
noncomputable def exLFs : List (LForm exLZ) := [⟨_, _, exLSl, exLBl, fun x y => (x, y)⟩, ⟨_, _, exLSl0, exLBl0, exLZ0⟩, ⟨_, _, exLSl1, exLBl1, exLZ1⟩]
abbrev qReF0 := Unit × Unit × Unit × Unit
abbrev qReF1 := qReFt1 × (List Int) × (List Int) × Unit × (Int × (Nat × Nat) × Unit) × (List Near) × (Unit × (List Near) × Unit) × Unit × qReFt2 × Unit
abbrev qReF2 := qReFt1 × (List Int) × (List Int) × Unit × (Int × Unit × Unit) × qReFt2 × qReFt2 × Unit
abbrev qReF3 := qReFt6 × (List Int) × (List Int) × (Int × Unit × Unit) × qReFt2 × qReFt2 × Unit
abbrev qReF4 := Unit × Int × Unit
abbrev qReF5 := qReFt1 × (List Int) × (List Int) × Unit × qReFt2 × Unit
abbrev qReF6 := qReFt6 × (List Int) × (List Int) × qReFt2 × Unit
noncomputable def exLAlts (R0 : exLZ → qReF0 → qReF1 → Prop) (R1 : exLZ → qReF0 → qReF2 → Prop) (R2 : exLZ → qReF0 → qReF3 → Prop) (R3 : exLZ → qReF4 → qReF5 → Prop) (R4 : exLZ → qReF4 → qReF6 → Prop) : List (Alt exLZ) := [⟨.exit 0, qReF0, qReF1, .cons 8 (.ptr 8) (.cons 11 (.ptr 4) (.cons 16 (.ptr 6) (.nil))), .cons qReFr0 (.cons (.rows Eu64 89) (.cons (.rows Ei16 27) (.cons (.spare) (.cons (.row (.ji 0 (.cons 1 (.slq 5 2) (.nil)))) (.cons (.rows En 46) (.cons (.row (.cons 0 (.nilS) (.cons 1 (.own En 7) (.nil)))) (.cons (.spare) (.cons qReFr3 (.nil))))))))), R0⟩, ⟨.exit 0, qReF0, qReF2, .cons 8 (.ptr 6) (.cons 11 (.ptr 4) (.cons 16 (.ptr 5) (.nil))), .cons qReFr0 (.cons (.rows Eu64 89) (.cons (.rows Ei16 27) (.cons (.spare) (.cons qReFr2 (.cons qReFr3 (.cons qReFr3 (.nil))))))), R1⟩, ⟨.exit 0, qReF0, qReF3, .cons 8 (.ptr 5) (.cons 11 (.ptr 3) (.cons 16 (.ptr 4) (.nil))), .cons qReFr1 (.cons (.rows Eu64 89) (.cons (.rows Ei16 27) (.cons qReFr2 (.cons qReFr3 (.cons qReFr3 (.nil)))))), R2⟩, ⟨.ret, qReF4, qReF5, .cons 8 (.ptr 4) (.ji 9 (.nil)), .cons qReFr0 (.cons (.rows Eu64 89) (.cons (.rows Ei16 27) (.cons (.spare) (.cons qReFr3 (.nil))))), R3⟩, ⟨.ret, qReF4, qReF6, .cons 8 (.ptr 3) (.ji 9 (.nil)), .cons qReFr1 (.cons (.rows Eu64 89) (.cons (.rows Ei16 27) (.cons qReFr3 (.nil)))), R4⟩]
abbrev zexLF (o : List Cd) (n i d r c : Int) (t a : Nat × Nat) (x T A f : List Int) (k : Int) (h : Nat × Nat) (m R : List Near) : exLZ := (((), (), (), (), (), (), (), o, n, i, ()), (d, r, c, t, a, x, ()), T, A, (), ((), ()), (f, ()), (k, h, ()), m, ((), R, ()), (), ((), (), ()), ())
noncomputable abbrev qReFk0 := KLX [(23, worstK), (24, addK), (27, lowK), (40, rdK)] [] [46, 89, 27] [] []
theorem exLForm (o : List Cd) (n i d r c : Int) (t a : Nat × Nat) (x T A f : List Int) (k : Int) (h : Nat × Nat) (m R : List Near) (N : exLZ → Prop) (R0 : exLZ → qReF0 → qReF1 → Prop) (R1 : exLZ → qReF0 → qReF2 → Prop) (R2 : exLZ → qReF0 → qReF3 → Prop) (R3 : exLZ → qReF4 → qReF5 → Prop) (R4 : exLZ → qReF4 → qReF6 → Prop) : ((runW PP qReFk0 100).code none 9 95 (uAd PP 9 8) (mkT (exLSl.av id ((), (), (), (), (), (), (), o, n, i, ()))) [] (stL true (exLBl.obs id ((d, r, c, t, a, x, ()), T, A, (), ((), ()), (f, ()), (k, h, ()), m, ((), R, ()), (), ((), (), ()), ()))) (uCh 3 exLFs (exLAlts R0 R1 R2 R3 R4) (zexLF o n i d r c t a x T A f k h m R) N)) = ( ifp (!uAf n i) (uAp i o.length ∧ ∃ x_1, Nt Ec (uAc i) 4 0 o x_1 ∧ ∃ x_2, Nt Ec (uAc i) 4 1 o x_2 ∧ ∃ x_3, Nt Ec (uAc i) 4 2 o x_3 ∧ ∃ x_4, Nt Ec (uAc i) 4 3 o x_4 ∧ ((∃ l, Sa En m l ∧ true = true ∧ worst1Pre (((), ()), (k, h, ()), l, ()) ∧ (∀ c_1 d_1, worst1R0 (((), ()), (k, h, ()), l, ()) c_1 d_1 → ifp c_1.2.1 (2 ≤ 2 ∧ ∃ x_5 : Int, some (I64 c_1.1.1) = some (I64 x_5) ∧ ∃ a_2 : Cd, Ag4 x_1 x_2 x_3 x_4 a_2 ∧ lowPre (a_2, ()) ∧ ifp (!uAf (lowV a_2) x_5) ((True ∧ ∃ l, Ow Ei64 x l 1 ∧ ∃ l_1, Sa Eu64 T l_1 ∧ ∃ l_2, Sa Ei16 A l_2 ∧ ∃ l_3, Sa En d_1.2.1 l_3 ∧ ∃ l_4, Ow En R l_4 2 ∧ true = true ∧ R0 (zexLF o n i d r c t a x T A f k h m R) ((), (), (), ()) ((d, r, c, t, a, l, ()), l_1, l_2, (), (d_1.1.1, d_1.1.2.1, ()), l_3, ((), l_4, ()), (), ((), (), ()), ())) ∨ (True ∧ ∃ l, Ow Ei64 x l 1 ∧ ∃ l, Sa Eu64 T l ∧ ∃ l, Sa Ei16 A l ∧ False) ∨ True ∧ False) ((∃ a : Cd, Ag4 x_1 x_2 x_3 x_4 a ∧ ∃ l, Wv Ei32 f l ∧ False) ∨ ∃ a_3 : Cd, Ag4 x_1 x_2 x_3 x_4 a_3 ∧ ∃ l, Wv Ei32 f l ∧ ∃ l_1, Ow Ei64 x l_1 1 ∧ ∃ l_2, Sa Eu64 T l_2 ∧ ∃ l_3, Sa Ei16 A l_3 ∧ true = true ∧ rdOPre ((a_3, (), (), ()), ((), ()), (l, ()), (d, r, c, t, a, l_1, ()), l_2, l_3, (), ()) ∧ (∀ c_2 d_2, rdOR0 ((a_3, (), (), ()), ((), ()), (l, ()), (d, r, c, t, a, l_1, ()), l_2, l_3, (), ()) c_2 d_2 → 2 ≤ 2 ∧ ifp (!uA0 c_2.2.1 0) ((True ∧ ∃ l, Ow Ei64 d_2.2.2.1.2.2.2.2.2.1 l 1 ∧ ∃ l_4, Sa Eu64 d_2.2.2.2.1 l_4 ∧ ∃ l_5, Sa Ei16 d_2.2.2.2.2.1 l_5 ∧ true = true ∧ R3 (zexLF o n i d r c t a x T A f k h m R) ((), c_2.2.1, ()) ((d_2.2.2.1.1, d_2.2.2.1.2.1, d_2.2.2.1.2.2.1, d_2.2.2.1.2.2.2.1, d_2.2.2.1.2.2.2.2.1, l, ()), l_4, l_5, (), ((), (), ()), ())) ∨ True ∧ False) (2 ≤ 2 ∧ ifp (roomy (R.length.add 1) 16) (∃ x : Int, some (I64 c_2.1.1) = some (I64 x) ∧ ∃ x_6 : Int, some (I64 c_2.1.2.1) = some (I64 x_6) ∧ ((∃ a : Near, Ag2 x x_6 a ∧ ∃ l, Sa En d_1.2.1 l ∧ true = true ∧ add1Pre (((), a, ()), (d_1.1.1, d_1.1.2.1, ()), l, ()) ∧ (∀ c d, add1R0 (((), a, ()), (d_1.1.1, d_1.1.2.1, ()), l, ()) c d → True ∧ ((∃ l, Wv Ec o l ∧ ∃ l_4, Ow Ei64 d_2.2.2.1.2.2.2.2.2.1 l_4 1 ∧ ∃ l_5, Sa Eu64 d_2.2.2.2.1 l_5 ∧ ∃ l_6, Sa Ei16 d_2.2.2.2.2.1 l_6 ∧ ∃ l_7, Wv Ei32 d_2.2.1.1 l_7 ∧ ∃ l_8, Sa En d.2.1 l_8 ∧ ∃ (l_9 : List Near), (WkL (R.flatMap En.f ++ [I64 x_1, I64 x_5]) (l_9.flatMap En.f) ∧ R.length.add 1 = l_9.length ∧ 2 = 2) ∧ true = true ∧ N (((), (), (), (), (), (), (), l, n, uAa .i64 (i.add 1), ()), (d_2.2.2.1.1, d_2.2.2.1.2.1, d_2.2.2.1.2.2.1, d_2.2.2.1.2.2.2.1, d_2.2.2.1.2.2.2.2.1, l_4, ()), l_5, l_6, (), ((), ()), (l_7, ()), (d.1.1, d.1.2.1, ()), l_8, ((), l_9, ()), (), ((), (), ()), ())) ∨ (∃ l, Wv Ec o l ∧ ∃ l, Ow Ei64 d_2.2.2.1.2.2.2.2.2.1 l 1 ∧ ∃ l, Sa Eu64 d_2.2.2.2.1 l ∧ ∃ l, Sa Ei16 d_2.2.2.2.2.1 l ∧ ∃ l, Wv Ei32 d_2.2.1.1 l ∧ False) ∨ ∃ l, Wv Ec o l ∧ False)) ∧ True) ∨ ∃ a : Near, Ag2 x x_6 a ∧ False)) False)) ∧ True)) (2 ≤ 2 ∧ ((∃ a : Cd, Ag4 x_1 x_2 x_3 x_4 a ∧ ∃ l, Wv Ei32 f l ∧ False) ∨ ∃ a_2 : Cd, Ag4 x_1 x_2 x_3 x_4 a_2 ∧ ∃ l, Wv Ei32 f l ∧ ∃ l_1, Ow Ei64 x l_1 1 ∧ ∃ l_2, Sa Eu64 T l_2 ∧ ∃ l_3, Sa Ei16 A l_3 ∧ true = true ∧ rdOPre ((a_2, (), (), ()), ((), ()), (l, ()), (d, r, c, t, a, l_1, ()), l_2, l_3, (), ()) ∧ (∀ c_2 d_2, rdOR0 ((a_2, (), (), ()), ((), ()), (l, ()), (d, r, c, t, a, l_1, ()), l_2, l_3, (), ()) c_2 d_2 → 2 ≤ 2 ∧ ifp (!uA0 c_2.2.1 0) ((True ∧ ∃ l, Ow Ei64 d_2.2.2.1.2.2.2.2.2.1 l 1 ∧ ∃ l_4, Sa Eu64 d_2.2.2.2.1 l_4 ∧ ∃ l_5, Sa Ei16 d_2.2.2.2.2.1 l_5 ∧ true = true ∧ R3 (zexLF o n i d r c t a x T A f k h m R) ((), c_2.2.1, ()) ((d_2.2.2.1.1, d_2.2.2.1.2.1, d_2.2.2.1.2.2.1, d_2.2.2.1.2.2.2.1, d_2.2.2.1.2.2.2.2.1, l, ()), l_4, l_5, (), ((), (), ()), ())) ∨ True ∧ False) (2 ≤ 2 ∧ ifp (roomy (R.length.add 1) 16) (∃ x : Int, some (I64 c_2.1.1) = some (I64 x) ∧ ∃ x_5 : Int, some (I64 c_2.1.2.1) = some (I64 x_5) ∧ ((∃ a : Near, Ag2 x x_5 a ∧ ∃ l, Sa En d_1.2.1 l ∧ true = true ∧ add1Pre (((), a, ()), (d_1.1.1, d_1.1.2.1, ()), l, ()) ∧ (∀ c d, add1R0 (((), a, ()), (d_1.1.1, d_1.1.2.1, ()), l, ()) c d → True ∧ ((∃ l, Wv Ec o l ∧ ∃ l_4, Ow Ei64 d_2.2.2.1.2.2.2.2.2.1 l_4 1 ∧ ∃ l_5, Sa Eu64 d_2.2.2.2.1 l_5 ∧ ∃ l_6, Sa Ei16 d_2.2.2.2.2.1 l_6 ∧ ∃ l_7, Wv Ei32 d_2.2.1.1 l_7 ∧ ∃ l_8, Sa En d.2.1 l_8 ∧ ∃ (l_9 : List Near), (WkL (R.flatMap En.f ++ [I64 x_1, I64 (-1)]) (l_9.flatMap En.f) ∧ R.length.add 1 = l_9.length ∧ 2 = 2) ∧ true = true ∧ N (((), (), (), (), (), (), (), l, n, uAa .i64 (i.add 1), ()), (d_2.2.2.1.1, d_2.2.2.1.2.1, d_2.2.2.1.2.2.1, d_2.2.2.1.2.2.2.1, d_2.2.2.1.2.2.2.2.1, l_4, ()), l_5, l_6, (), ((), ()), (l_7, ()), (d.1.1, d.1.2.1, ()), l_8, ((), l_9, ()), (), ((), (), ()), ())) ∨ (∃ l, Wv Ec o l ∧ ∃ l, Ow Ei64 d_2.2.2.1.2.2.2.2.2.1 l 1 ∧ ∃ l, Sa Eu64 d_2.2.2.2.1 l ∧ ∃ l, Sa Ei16 d_2.2.2.2.2.1 l ∧ ∃ l, Wv Ei32 d_2.2.1.1 l ∧ False) ∨ ∃ l, Wv Ec o l ∧ False)) ∧ True) ∨ ∃ a : Near, Ag2 x x_5 a ∧ False)) False)) ∧ True))) ∧ True) ∨ False)) ((True ∧ ∃ l, Ow Ei64 x l 1 ∧ ∃ l_1, Sa Eu64 T l_1 ∧ ∃ l_2, Sa Ei16 A l_2 ∧ ∃ l_3, Sa En m l_3 ∧ ∃ l_4, Ow En R l_4 2 ∧ true = true ∧ R0 (zexLF o n i d r c t a x T A f k h m R) ((), (), (), ()) ((d, r, c, t, a, l, ()), l_1, l_2, (), (k, h, ()), l_3, ((), l_4, ()), (), ((), (), ()), ())) ∨ (True ∧ ∃ l, Ow Ei64 x l 1 ∧ ∃ l, Sa Eu64 T l ∧ ∃ l, Sa Ei16 A l ∧ False) ∨ True ∧ False)) := by kernel_rfl
abbrev zexLF0 (o : List Cd) (n i d r c : Int) (t a : Nat × Nat) (x T A f : List Int) (k : Int) : exLZ := (((), (), (), (), (), (), (), o, n, i, ()), (d, r, c, t, a, x, ()), T, A, (), ((), ()), (f, ()), (k, (0, 0), ()), [], ((), [], ()), (), ((), (), ()), ())
theorem exLForm0 (o : List Cd) (n i d r c : Int) (t a : Nat × Nat) (x T A f : List Int) (k : Int) (N : exLZ → Prop) (R0 : exLZ → qReF0 → qReF1 → Prop) (R1 : exLZ → qReF0 → qReF2 → Prop) (R2 : exLZ → qReF0 → qReF3 → Prop) (R3 : exLZ → qReF4 → qReF5 → Prop) (R4 : exLZ → qReF4 → qReF6 → Prop) : ((runW PP qReFk0 100).code none 9 95 (uAd PP 9 8) (mkT (exLSl0.av id ((), (), (), (), (), (), (), o, n, i, ()))) [] (stL true (exLBl0.obs id ((d, r, c, t, a, x, ()), T, A, (), ((), ()), (f, ()), (k, (), ()), ((), (), ()), ((), (), ()), ()))) (uCh 3 exLFs (exLAlts R0 R1 R2 R3 R4) (exLZ0 ((), (), (), (), (), (), (), o, n, i, ()) ((d, r, c, t, a, x, ()), T, A, (), ((), ()), (f, ()), (k, (), ()), ((), (), ()), ((), (), ()), ())) N)) = ( ifp (!uAf n i) (uAp i o.length ∧ ∃ x_1, Nt Ec (uAc i) 4 0 o x_1 ∧ ∃ x_2, Nt Ec (uAc i) 4 1 o x_2 ∧ ∃ x_3, Nt Ec (uAc i) 4 2 o x_3 ∧ ∃ x_4, Nt Ec (uAc i) 4 3 o x_4 ∧ (False ∨ true = true ∧ worst0Pre (((), ()), (k, (), ()), ()) ∧ (∀ c_1 d_1, worst0R0 (((), ()), (k, (), ()), ()) c_1 d_1 → ifp c_1.2.1 (2 ≤ 2 ∧ ∃ x_5 : Int, some (I64 c_1.1.1) = some (I64 x_5) ∧ ∃ a_2 : Cd, Ag4 x_1 x_2 x_3 x_4 a_2 ∧ lowPre (a_2, ()) ∧ ifp (!uAf (lowV a_2) x_5) ((True ∧ ∃ l, Ow Ei64 x l 1 ∧ ∃ l, Sa Eu64 T l ∧ ∃ l, Sa Ei16 A l ∧ False) ∨ (True ∧ ∃ l, Ow Ei64 x l 1 ∧ ∃ l_1, Sa Eu64 T l_1 ∧ ∃ l_2, Sa Ei16 A l_2 ∧ true = true ∧ R1 (zexLF0 o n i d r c t a x T A f k) ((), (), (), ()) ((d, r, c, t, a, l, ()), l_1, l_2, (), (d_1.1.1, (), ()), ((), (), ()), ((), (), ()), ())) ∨ True ∧ False) ((∃ a : Cd, Ag4 x_1 x_2 x_3 x_4 a ∧ ∃ l, Wv Ei32 f l ∧ False) ∨ ∃ a_3 : Cd, Ag4 x_1 x_2 x_3 x_4 a_3 ∧ ∃ l, Wv Ei32 f l ∧ ∃ l_1, Ow Ei64 x l_1 1 ∧ ∃ l_2, Sa Eu64 T l_2 ∧ ∃ l_3, Sa Ei16 A l_3 ∧ true = true ∧ rdOPre ((a_3, (), (), ()), ((), ()), (l, ()), (d, r, c, t, a, l_1, ()), l_2, l_3, (), ()) ∧ (∀ c_2 d_2, rdOR0 ((a_3, (), (), ()), ((), ()), (l, ()), (d, r, c, t, a, l_1, ()), l_2, l_3, (), ()) c_2 d_2 → 2 ≤ 2 ∧ ifp (!uA0 c_2.2.1 0) ((True ∧ ∃ l, Ow Ei64 d_2.2.2.1.2.2.2.2.2.1 l 1 ∧ ∃ l_4, Sa Eu64 d_2.2.2.2.1 l_4 ∧ ∃ l_5, Sa Ei16 d_2.2.2.2.2.1 l_5 ∧ true = true ∧ R3 (zexLF0 o n i d r c t a x T A f k) ((), c_2.2.1, ()) ((d_2.2.2.1.1, d_2.2.2.1.2.1, d_2.2.2.1.2.2.1, d_2.2.2.1.2.2.2.1, d_2.2.2.1.2.2.2.2.1, l, ()), l_4, l_5, (), ((), (), ()), ())) ∨ True ∧ False) (2 ≤ 2 ∧ ∃ x : Int, some (I64 c_2.1.1) = some (I64 x) ∧ ∃ x_6 : Int, some (I64 c_2.1.2.1) = some (I64 x_6) ∧ ((∃ a : Near, Ag2 x x_6 a ∧ False) ∨ ∃ a : Near, Ag2 x x_6 a ∧ true = true ∧ add0Pre (((), a, ()), (d_1.1.1, (), ()), ()) ∧ (∀ c d, add0R0 (((), a, ()), (d_1.1.1, (), ()), ()) c d → True ∧ ((∃ l, Wv Ec o l ∧ ∃ l, Ow Ei64 d_2.2.2.1.2.2.2.2.2.1 l 1 ∧ ∃ l, Sa Eu64 d_2.2.2.2.1 l ∧ ∃ l, Sa Ei16 d_2.2.2.2.2.1 l ∧ ∃ l, Wv Ei32 d_2.2.1.1 l ∧ False) ∨ (∃ l, Wv Ec o l ∧ ∃ l, Ow Ei64 d_2.2.2.1.2.2.2.2.2.1 l 1 ∧ ∃ l, Sa Eu64 d_2.2.2.2.1 l ∧ ∃ l, Sa Ei16 d_2.2.2.2.2.1 l ∧ ∃ l, Wv Ei32 d_2.2.1.1 l ∧ False) ∨ ∃ l, Wv Ec o l ∧ False)) ∧ (∀ c d, add0R1 (((), a, ()), (d_1.1.1, (), ()), ()) c d → True ∧ ((∃ l, Wv Ec o l ∧ ∃ l_4, Ow Ei64 d_2.2.2.1.2.2.2.2.2.1 l_4 1 ∧ ∃ l_5, Sa Eu64 d_2.2.2.2.1 l_5 ∧ ∃ l_6, Sa Ei16 d_2.2.2.2.2.1 l_6 ∧ ∃ l_7, Wv Ei32 d_2.2.1.1 l_7 ∧ ∃ l_8, Sa En d.2.1 l_8 ∧ ∃ (l_9 : List Near), (WkL [I64 x_1, I64 x_5] (l_9.flatMap En.f) ∧ 1 = l_9.length ∧ 2 = 2) ∧ true = true ∧ N (((), (), (), (), (), (), (), l, n, uAa .i64 (i.add 1), ()), (d_2.2.2.1.1, d_2.2.2.1.2.1, d_2.2.2.1.2.2.1, d_2.2.2.1.2.2.2.1, d_2.2.2.1.2.2.2.2.1, l_4, ()), l_5, l_6, (), ((), ()), (l_7, ()), (d.1.1, d.1.2.1, ()), l_8, ((), l_9, ()), (), ((), (), ()), ())) ∨ (∃ l, Wv Ec o l ∧ ∃ l, Ow Ei64 d_2.2.2.1.2.2.2.2.2.1 l 1 ∧ ∃ l, Sa Eu64 d_2.2.2.2.1 l ∧ ∃ l, Sa Ei16 d_2.2.2.2.2.1 l ∧ ∃ l, Wv Ei32 d_2.2.1.1 l ∧ False) ∨ ∃ l, Wv Ec o l ∧ False)) ∧ True))) ∧ True)) (2 ≤ 2 ∧ ((∃ a : Cd, Ag4 x_1 x_2 x_3 x_4 a ∧ ∃ l, Wv Ei32 f l ∧ False) ∨ ∃ a_2 : Cd, Ag4 x_1 x_2 x_3 x_4 a_2 ∧ ∃ l, Wv Ei32 f l ∧ ∃ l_1, Ow Ei64 x l_1 1 ∧ ∃ l_2, Sa Eu64 T l_2 ∧ ∃ l_3, Sa Ei16 A l_3 ∧ true = true ∧ rdOPre ((a_2, (), (), ()), ((), ()), (l, ()), (d, r, c, t, a, l_1, ()), l_2, l_3, (), ()) ∧ (∀ c_2 d_2, rdOR0 ((a_2, (), (), ()), ((), ()), (l, ()), (d, r, c, t, a, l_1, ()), l_2, l_3, (), ()) c_2 d_2 → 2 ≤ 2 ∧ ifp (!uA0 c_2.2.1 0) ((True ∧ ∃ l, Ow Ei64 d_2.2.2.1.2.2.2.2.2.1 l 1 ∧ ∃ l_4, Sa Eu64 d_2.2.2.2.1 l_4 ∧ ∃ l_5, Sa Ei16 d_2.2.2.2.2.1 l_5 ∧ true = true ∧ R3 (zexLF0 o n i d r c t a x T A f k) ((), c_2.2.1, ()) ((d_2.2.2.1.1, d_2.2.2.1.2.1, d_2.2.2.1.2.2.1, d_2.2.2.1.2.2.2.1, d_2.2.2.1.2.2.2.2.1, l, ()), l_4, l_5, (), ((), (), ()), ())) ∨ True ∧ False) (2 ≤ 2 ∧ ∃ x : Int, some (I64 c_2.1.1) = some (I64 x) ∧ ∃ x_5 : Int, some (I64 c_2.1.2.1) = some (I64 x_5) ∧ ((∃ a : Near, Ag2 x x_5 a ∧ False) ∨ ∃ a : Near, Ag2 x x_5 a ∧ true = true ∧ add0Pre (((), a, ()), (d_1.1.1, (), ()), ()) ∧ (∀ c d, add0R0 (((), a, ()), (d_1.1.1, (), ()), ()) c d → True ∧ ((∃ l, Wv Ec o l ∧ ∃ l, Ow Ei64 d_2.2.2.1.2.2.2.2.2.1 l 1 ∧ ∃ l, Sa Eu64 d_2.2.2.2.1 l ∧ ∃ l, Sa Ei16 d_2.2.2.2.2.1 l ∧ ∃ l, Wv Ei32 d_2.2.1.1 l ∧ False) ∨ (∃ l, Wv Ec o l ∧ ∃ l, Ow Ei64 d_2.2.2.1.2.2.2.2.2.1 l 1 ∧ ∃ l, Sa Eu64 d_2.2.2.2.1 l ∧ ∃ l, Sa Ei16 d_2.2.2.2.2.1 l ∧ ∃ l, Wv Ei32 d_2.2.1.1 l ∧ False) ∨ ∃ l, Wv Ec o l ∧ False)) ∧ (∀ c d, add0R1 (((), a, ()), (d_1.1.1, (), ()), ()) c d → True ∧ ((∃ l, Wv Ec o l ∧ ∃ l_4, Ow Ei64 d_2.2.2.1.2.2.2.2.2.1 l_4 1 ∧ ∃ l_5, Sa Eu64 d_2.2.2.2.1 l_5 ∧ ∃ l_6, Sa Ei16 d_2.2.2.2.2.1 l_6 ∧ ∃ l_7, Wv Ei32 d_2.2.1.1 l_7 ∧ ∃ l_8, Sa En d.2.1 l_8 ∧ ∃ (l_9 : List Near), (WkL [I64 x_1, I64 (-1)] (l_9.flatMap En.f) ∧ 1 = l_9.length ∧ 2 = 2) ∧ true = true ∧ N (((), (), (), (), (), (), (), l, n, uAa .i64 (i.add 1), ()), (d_2.2.2.1.1, d_2.2.2.1.2.1, d_2.2.2.1.2.2.1, d_2.2.2.1.2.2.2.1, d_2.2.2.1.2.2.2.2.1, l_4, ()), l_5, l_6, (), ((), ()), (l_7, ()), (d.1.1, d.1.2.1, ()), l_8, ((), l_9, ()), (), ((), (), ()), ())) ∨ (∃ l, Wv Ec o l ∧ ∃ l, Ow Ei64 d_2.2.2.1.2.2.2.2.2.1 l 1 ∧ ∃ l, Sa Eu64 d_2.2.2.2.1 l ∧ ∃ l, Sa Ei16 d_2.2.2.2.2.1 l ∧ ∃ l, Wv Ei32 d_2.2.1.1 l ∧ False) ∨ ∃ l, Wv Ec o l ∧ False)) ∧ True))) ∧ True))) ∧ True)) ((True ∧ ∃ l, Ow Ei64 x l 1 ∧ ∃ l, Sa Eu64 T l ∧ ∃ l, Sa Ei16 A l ∧ False) ∨ (True ∧ ∃ l, Ow Ei64 x l 1 ∧ ∃ l_1, Sa Eu64 T l_1 ∧ ∃ l_2, Sa Ei16 A l_2 ∧ true = true ∧ R1 (zexLF0 o n i d r c t a x T A f k) ((), (), (), ()) ((d, r, c, t, a, l, ()), l_1, l_2, (), (k, (), ()), ((), (), ()), ((), (), ()), ())) ∨ True ∧ False)) := by kernel_rfl
abbrev zexLF1 (o : List Cd) (n i d r c : Int) (t a : Nat × Nat) (T A f : List Int) (k : Int) : exLZ := (((), (), (), (), (), (), (), o, n, i, ()), (d, r, c, t, a, [], ()), T, A, (), ((), ()), (f, ()), (k, (0, 0), ()), [], ((), [], ()), (), ((), (), ()), ())
theorem exLForm1 (o : List Cd) (n i d r c : Int) (t a : Nat × Nat) (T A f : List Int) (k : Int) (N : exLZ → Prop) (R0 : exLZ → qReF0 → qReF1 → Prop) (R1 : exLZ → qReF0 → qReF2 → Prop) (R2 : exLZ → qReF0 → qReF3 → Prop) (R3 : exLZ → qReF4 → qReF5 → Prop) (R4 : exLZ → qReF4 → qReF6 → Prop) : ((runW PP qReFk0 100).code none 9 95 (uAd PP 9 8) (mkT (exLSl1.av id ((), (), (), (), (), (), (), o, n, i, ()))) [] (stL true (exLBl1.obs id ((d, r, c, t, a, (), ()), T, A, ((), ()), (f, ()), (k, (), ()), ((), (), ()), ((), (), ()), ()))) (uCh 3 exLFs (exLAlts R0 R1 R2 R3 R4) (exLZ1 ((), (), (), (), (), (), (), o, n, i, ()) ((d, r, c, t, a, (), ()), T, A, ((), ()), (f, ()), (k, (), ()), ((), (), ()), ((), (), ()), ())) N)) = ( ifp (!uAf n i) (uAp i o.length ∧ ∃ x, Nt Ec (uAc i) 4 0 o x ∧ ∃ x_1, Nt Ec (uAc i) 4 1 o x_1 ∧ ∃ x_2, Nt Ec (uAc i) 4 2 o x_2 ∧ ∃ x_3, Nt Ec (uAc i) 4 3 o x_3 ∧ (False ∨ true = true ∧ worst0Pre (((), ()), (k, (), ()), ()) ∧ (∀ c_1 d_1, worst0R0 (((), ()), (k, (), ()), ()) c_1 d_1 → ifp c_1.2.1 (2 ≤ 2 ∧ ∃ x_4 : Int, some (I64 c_1.1.1) = some (I64 x_4) ∧ ∃ a_2 : Cd, Ag4 x x_1 x_2 x_3 a_2 ∧ lowPre (a_2, ()) ∧ ifp (!uAf (lowV a_2) x_4) (True ∧ False ∨ True ∧ False ∨ True ∧ ∃ l, Sa Eu64 T l ∧ ∃ l_1, Sa Ei16 A l_1 ∧ true = true ∧ R2 (zexLF1 o n i d r c t a T A f k) ((), (), (), ()) ((d, r, c, t, a, (), ()), l, l_1, (d_1.1.1, (), ()), ((), (), ()), ((), (), ()), ())) ((∃ a_3 : Cd, Ag4 x x_1 x_2 x_3 a_3 ∧ ∃ l, Wv Ei32 f l ∧ ∃ l_1, Sa Eu64 T l_1 ∧ ∃ l_2, Sa Ei16 A l_2 ∧ true = true ∧ rdNPre ((a_3, (), (), ()), ((), ()), (l, ()), (d, r, c, t, a, (), ()), l_1, l_2, ()) ∧ (∀ c_2 d_2, rdNR0 ((a_3, (), (), ()), ((), ()), (l, ()), (d, r, c, t, a, (), ()), l_1, l_2, ()) c_2 d_2 → 2 ≤ 2 ∧ ifp (!uA0 c_2.2.1 0) (True ∧ False ∨ True ∧ ∃ l, Sa Eu64 d_2.2.2.2.1 l ∧ ∃ l_3, Sa Ei16 d_2.2.2.2.2.1 l_3 ∧ true = true ∧ R4 (zexLF1 o n i d r c t a T A f k) ((), c_2.2.1, ()) ((d_2.2.2.1.1, d_2.2.2.1.2.1, d_2.2.2.1.2.2.1, d_2.2.2.1.2.2.2.1, d_2.2.2.1.2.2.2.2.1, (), ()), l, l_3, ((), (), ()), ())) (2 ≤ 2 ∧ ∃ x : Int, some (I64 c_2.1.1) = some (I64 x) ∧ ∃ x_5 : Int, some (I64 c_2.1.2.1) = some (I64 x_5) ∧ ((∃ a : Near, Ag2 x x_5 a ∧ False) ∨ ∃ a : Near, Ag2 x x_5 a ∧ true = true ∧ add0Pre (((), a, ()), (d_1.1.1, (), ()), ()) ∧ (∀ c d, add0R0 (((), a, ()), (d_1.1.1, (), ()), ()) c d → True ∧ ((∃ l, Wv Ec o l ∧ False) ∨ (∃ l, Wv Ec o l ∧ False) ∨ ∃ l, Wv Ec o l ∧ ∃ l, Sa Eu64 d_2.2.2.2.1 l ∧ ∃ l, Sa Ei16 d_2.2.2.2.2.1 l ∧ ∃ l, Wv Ei32 d_2.2.1.1 l ∧ False)) ∧ (∀ c d, add0R1 (((), a, ()), (d_1.1.1, (), ()), ()) c d → True ∧ ((∃ l, Wv Ec o l ∧ False) ∨ (∃ l, Wv Ec o l ∧ False) ∨ ∃ l, Wv Ec o l ∧ ∃ l, Sa Eu64 d_2.2.2.2.1 l ∧ ∃ l, Sa Ei16 d_2.2.2.2.2.1 l ∧ ∃ l, Wv Ei32 d_2.2.1.1 l ∧ False)) ∧ True))) ∧ (∀ c_2 d_2, rdNR1 ((a_3, (), (), ()), ((), ()), (l, ()), (d, r, c, t, a, (), ()), l_1, l_2, ()) c_2 d_2 → 2 ≤ 2 ∧ ifp (!uA0 c_2.2.1 0) ((True ∧ ∃ l, Ow Ei64 d_2.2.2.1.2.2.2.2.2.1 l 1 ∧ ∃ l_3, Sa Eu64 d_2.2.2.2.1 l_3 ∧ ∃ l_4, Sa Ei16 d_2.2.2.2.2.1 l_4 ∧ true = true ∧ R3 (zexLF1 o n i d r c t a T A f k) ((), c_2.2.1, ()) ((d_2.2.2.1.1, d_2.2.2.1.2.1, d_2.2.2.1.2.2.1, d_2.2.2.1.2.2.2.1, d_2.2.2.1.2.2.2.2.1, l, ()), l_3, l_4, (), ((), (), ()), ())) ∨ True ∧ False) (2 ≤ 2 ∧ ∃ x_5 : Int, some (I64 c_2.1.1) = some (I64 x_5) ∧ ∃ x_6 : Int, some (I64 c_2.1.2.1) = some (I64 x_6) ∧ ((∃ a : Near, Ag2 x_5 x_6 a ∧ False) ∨ ∃ a : Near, Ag2 x_5 x_6 a ∧ true = true ∧ add0Pre (((), a, ()), (d_1.1.1, (), ()), ()) ∧ (∀ c d, add0R0 (((), a, ()), (d_1.1.1, (), ()), ()) c d → True ∧ ((∃ l, Wv Ec o l ∧ ∃ l, Ow Ei64 d_2.2.2.1.2.2.2.2.2.1 l 1 ∧ ∃ l, Sa Eu64 d_2.2.2.2.1 l ∧ ∃ l, Sa Ei16 d_2.2.2.2.2.1 l ∧ ∃ l, Wv Ei32 d_2.2.1.1 l ∧ False) ∨ (∃ l, Wv Ec o l ∧ ∃ l, Ow Ei64 d_2.2.2.1.2.2.2.2.2.1 l 1 ∧ ∃ l, Sa Eu64 d_2.2.2.2.1 l ∧ ∃ l, Sa Ei16 d_2.2.2.2.2.1 l ∧ ∃ l, Wv Ei32 d_2.2.1.1 l ∧ False) ∨ ∃ l, Wv Ec o l ∧ False)) ∧ (∀ c d, add0R1 (((), a, ()), (d_1.1.1, (), ()), ()) c d → True ∧ ((∃ l, Wv Ec o l ∧ ∃ l_3, Ow Ei64 d_2.2.2.1.2.2.2.2.2.1 l_3 1 ∧ ∃ l_4, Sa Eu64 d_2.2.2.2.1 l_4 ∧ ∃ l_5, Sa Ei16 d_2.2.2.2.2.1 l_5 ∧ ∃ l_6, Wv Ei32 d_2.2.1.1 l_6 ∧ ∃ l_7, Sa En d.2.1 l_7 ∧ ∃ (l_8 : List Near), (WkL [I64 x, I64 x_4] (l_8.flatMap En.f) ∧ 1 = l_8.length ∧ 2 = 2) ∧ true = true ∧ N (((), (), (), (), (), (), (), l, n, uAa .i64 (i.add 1), ()), (d_2.2.2.1.1, d_2.2.2.1.2.1, d_2.2.2.1.2.2.1, d_2.2.2.1.2.2.2.1, d_2.2.2.1.2.2.2.2.1, l_3, ()), l_4, l_5, (), ((), ()), (l_6, ()), (d.1.1, d.1.2.1, ()), l_7, ((), l_8, ()), (), ((), (), ()), ())) ∨ (∃ l, Wv Ec o l ∧ ∃ l, Ow Ei64 d_2.2.2.1.2.2.2.2.2.1 l 1 ∧ ∃ l, Sa Eu64 d_2.2.2.2.1 l ∧ ∃ l, Sa Ei16 d_2.2.2.2.2.1 l ∧ ∃ l, Wv Ei32 d_2.2.1.1 l ∧ False) ∨ ∃ l, Wv Ec o l ∧ False)) ∧ True))) ∧ True) ∨ ∃ a : Cd, Ag4 x x_1 x_2 x_3 a ∧ ∃ l, Wv Ei32 f l ∧ False)) (2 ≤ 2 ∧ ((∃ a_2 : Cd, Ag4 x x_1 x_2 x_3 a_2 ∧ ∃ l, Wv Ei32 f l ∧ ∃ l_1, Sa Eu64 T l_1 ∧ ∃ l_2, Sa Ei16 A l_2 ∧ true = true ∧ rdNPre ((a_2, (), (), ()), ((), ()), (l, ()), (d, r, c, t, a, (), ()), l_1, l_2, ()) ∧ (∀ c_2 d_2, rdNR0 ((a_2, (), (), ()), ((), ()), (l, ()), (d, r, c, t, a, (), ()), l_1, l_2, ()) c_2 d_2 → 2 ≤ 2 ∧ ifp (!uA0 c_2.2.1 0) (True ∧ False ∨ True ∧ ∃ l, Sa Eu64 d_2.2.2.2.1 l ∧ ∃ l_3, Sa Ei16 d_2.2.2.2.2.1 l_3 ∧ true = true ∧ R4 (zexLF1 o n i d r c t a T A f k) ((), c_2.2.1, ()) ((d_2.2.2.1.1, d_2.2.2.1.2.1, d_2.2.2.1.2.2.1, d_2.2.2.1.2.2.2.1, d_2.2.2.1.2.2.2.2.1, (), ()), l, l_3, ((), (), ()), ())) (2 ≤ 2 ∧ ∃ x : Int, some (I64 c_2.1.1) = some (I64 x) ∧ ∃ x_4 : Int, some (I64 c_2.1.2.1) = some (I64 x_4) ∧ ((∃ a : Near, Ag2 x x_4 a ∧ False) ∨ ∃ a : Near, Ag2 x x_4 a ∧ true = true ∧ add0Pre (((), a, ()), (d_1.1.1, (), ()), ()) ∧ (∀ c d, add0R0 (((), a, ()), (d_1.1.1, (), ()), ()) c d → True ∧ ((∃ l, Wv Ec o l ∧ False) ∨ (∃ l, Wv Ec o l ∧ False) ∨ ∃ l, Wv Ec o l ∧ ∃ l, Sa Eu64 d_2.2.2.2.1 l ∧ ∃ l, Sa Ei16 d_2.2.2.2.2.1 l ∧ ∃ l, Wv Ei32 d_2.2.1.1 l ∧ False)) ∧ (∀ c d, add0R1 (((), a, ()), (d_1.1.1, (), ()), ()) c d → True ∧ ((∃ l, Wv Ec o l ∧ False) ∨ (∃ l, Wv Ec o l ∧ False) ∨ ∃ l, Wv Ec o l ∧ ∃ l, Sa Eu64 d_2.2.2.2.1 l ∧ ∃ l, Sa Ei16 d_2.2.2.2.2.1 l ∧ ∃ l, Wv Ei32 d_2.2.1.1 l ∧ False)) ∧ True))) ∧ (∀ c_2 d_2, rdNR1 ((a_2, (), (), ()), ((), ()), (l, ()), (d, r, c, t, a, (), ()), l_1, l_2, ()) c_2 d_2 → 2 ≤ 2 ∧ ifp (!uA0 c_2.2.1 0) ((True ∧ ∃ l, Ow Ei64 d_2.2.2.1.2.2.2.2.2.1 l 1 ∧ ∃ l_3, Sa Eu64 d_2.2.2.2.1 l_3 ∧ ∃ l_4, Sa Ei16 d_2.2.2.2.2.1 l_4 ∧ true = true ∧ R3 (zexLF1 o n i d r c t a T A f k) ((), c_2.2.1, ()) ((d_2.2.2.1.1, d_2.2.2.1.2.1, d_2.2.2.1.2.2.1, d_2.2.2.1.2.2.2.1, d_2.2.2.1.2.2.2.2.1, l, ()), l_3, l_4, (), ((), (), ()), ())) ∨ True ∧ False) (2 ≤ 2 ∧ ∃ x_4 : Int, some (I64 c_2.1.1) = some (I64 x_4) ∧ ∃ x_5 : Int, some (I64 c_2.1.2.1) = some (I64 x_5) ∧ ((∃ a : Near, Ag2 x_4 x_5 a ∧ False) ∨ ∃ a : Near, Ag2 x_4 x_5 a ∧ true = true ∧ add0Pre (((), a, ()), (d_1.1.1, (), ()), ()) ∧ (∀ c d, add0R0 (((), a, ()), (d_1.1.1, (), ()), ()) c d → True ∧ ((∃ l, Wv Ec o l ∧ ∃ l, Ow Ei64 d_2.2.2.1.2.2.2.2.2.1 l 1 ∧ ∃ l, Sa Eu64 d_2.2.2.2.1 l ∧ ∃ l, Sa Ei16 d_2.2.2.2.2.1 l ∧ ∃ l, Wv Ei32 d_2.2.1.1 l ∧ False) ∨ (∃ l, Wv Ec o l ∧ ∃ l, Ow Ei64 d_2.2.2.1.2.2.2.2.2.1 l 1 ∧ ∃ l, Sa Eu64 d_2.2.2.2.1 l ∧ ∃ l, Sa Ei16 d_2.2.2.2.2.1 l ∧ ∃ l, Wv Ei32 d_2.2.1.1 l ∧ False) ∨ ∃ l, Wv Ec o l ∧ False)) ∧ (∀ c d, add0R1 (((), a, ()), (d_1.1.1, (), ()), ()) c d → True ∧ ((∃ l, Wv Ec o l ∧ ∃ l_3, Ow Ei64 d_2.2.2.1.2.2.2.2.2.1 l_3 1 ∧ ∃ l_4, Sa Eu64 d_2.2.2.2.1 l_4 ∧ ∃ l_5, Sa Ei16 d_2.2.2.2.2.1 l_5 ∧ ∃ l_6, Wv Ei32 d_2.2.1.1 l_6 ∧ ∃ l_7, Sa En d.2.1 l_7 ∧ ∃ (l_8 : List Near), (WkL [I64 x, I64 (-1)] (l_8.flatMap En.f) ∧ 1 = l_8.length ∧ 2 = 2) ∧ true = true ∧ N (((), (), (), (), (), (), (), l, n, uAa .i64 (i.add 1), ()), (d_2.2.2.1.1, d_2.2.2.1.2.1, d_2.2.2.1.2.2.1, d_2.2.2.1.2.2.2.1, d_2.2.2.1.2.2.2.2.1, l_3, ()), l_4, l_5, (), ((), ()), (l_6, ()), (d.1.1, d.1.2.1, ()), l_7, ((), l_8, ()), (), ((), (), ()), ())) ∨ (∃ l, Wv Ec o l ∧ ∃ l, Ow Ei64 d_2.2.2.1.2.2.2.2.2.1 l 1 ∧ ∃ l, Sa Eu64 d_2.2.2.2.1 l ∧ ∃ l, Sa Ei16 d_2.2.2.2.2.1 l ∧ ∃ l, Wv Ei32 d_2.2.1.1 l ∧ False) ∨ ∃ l, Wv Ec o l ∧ False)) ∧ True))) ∧ True) ∨ ∃ a : Cd, Ag4 x x_1 x_2 x_3 a ∧ ∃ l, Wv Ei32 f l ∧ False))) ∧ True)) (True ∧ False ∨ True ∧ False ∨ True ∧ ∃ l, Sa Eu64 T l ∧ ∃ l_1, Sa Ei16 A l_1 ∧ true = true ∧ R2 (zexLF1 o n i d r c t a T A f k) ((), (), (), ()) ((d, r, c, t, a, (), ()), l, l_1, (k, (), ()), ((), (), ()), ((), (), ()), ()))) := by kernel_rfl
def exLInv : exLZ → Prop := fun (((), (), (), (), (), (), (), o, n, i, ()), (d, r, c, t, a, x, ()), T, A, (), ((), ()), (f, ()), (k, h, ()), m, ((), R, ()), (), ((), (), ()), ()) => ∃ (q : Nat) (V : List (List Int)) (L : List Near), i = q ∧ n = o.length ∧ q ≤ o.length ∧ o.length ≤ 60 ∧ (∀ u ∈ o, u.2.2.2.1 < 9223372036854775808) ∧ SlOk d r c t a T A V ∧ 0 < k ∧ h = (m.length, m.length) ∧ TopOk k m L ∧ m.length ≤ q ∧ R.length ≤ q ∧ x.length ≤ 999900 + q
def exLMu : exLZ → Nat := fun (((), (), (), (), (), (), (), o, n, i, ()), (d, r, c, t, a, x, ()), T, A, (), ((), ()), (f, ()), (k, h, ()), m, ((), R, ()), (), ((), (), ()), ()) => o.length - i.toNat
def exLR0 : exLZ → qReF0 → qReF1 → Prop := fun (((), (), (), (), (), (), (), o, n, i, ()), (d, r, c, t, a, x, ()), T, A, (), ((), ()), (f, ()), (k, h, ()), m, ((), R, ()), (), ((), (), ()), ()) _ ((d2, r2, c2, t2, a2, x2, _), T2, A2, _, (k2, h2, _), m2, (_, R2, _), _) => d2 = d ∧ r2 = r ∧ c2 = c ∧ t2 = t ∧ a2 = a ∧ T2 = T ∧ A2 = A ∧ x2.length + i.toNat ≤ x.length + o.length ∧ k2 = k ∧ h2 = (m2.length, m2.length) ∧ m2.length ≤ 60 ∧ ∀ V L, SlOk d r c t a T A V → TopOk k m L → ∃ L2, TopOk k m2 L2 ∧ exF f V k (o.drop i.toNat) L R = ((L2, R2), 0)
def exLR1 : exLZ → qReF0 → qReF2 → Prop := fun (((), (), (), (), (), (), (), o, n, i, ()), (d, r, c, t, a, x, ()), T, A, (), ((), ()), (f, ()), (k, h, ()), m, ((), R, ()), (), ((), (), ()), ()) _ ((d2, r2, c2, t2, a2, x2, _), T2, A2, _) => d2 = d ∧ r2 = r ∧ c2 = c ∧ t2 = t ∧ a2 = a ∧ T2 = T ∧ A2 = A ∧ x2.length + i.toNat ≤ x.length + o.length ∧ ∀ V L, SlOk d r c t a T A V → TopOk k m L → exF f V k (o.drop i.toNat) L R = (([], []), 0)
def exLR2 : exLZ → qReF0 → qReF3 → Prop := fun (((), (), (), (), (), (), (), o, n, i, ()), (d, r, c, t, a, x, ()), T, A, (), ((), ()), (f, ()), (k, h, ()), m, ((), R, ()), (), ((), (), ()), ()) _ ((d2, r2, c2, t2, a2, _), T2, A2, _) => d2 = d ∧ r2 = r ∧ c2 = c ∧ t2 = t ∧ a2 = a ∧ T2 = T ∧ A2 = A ∧ ∀ V L, SlOk d r c t a T A V → TopOk k m L → exF f V k (o.drop i.toNat) L R = (([], []), 0)
def exLR3 : exLZ → qReF4 → qReF5 → Prop := fun (((), (), (), (), (), (), (), o, n, i, ()), (d, r, c, t, a, x, ()), T, A, (), ((), ()), (f, ()), (k, h, ()), m, ((), R, ()), (), ((), (), ()), ()) (_, e, _) ((d2, r2, c2, t2, a2, x2, _), T2, A2, _) => d2 = d ∧ r2 = r ∧ c2 = c ∧ t2 = t ∧ a2 = a ∧ T2 = T ∧ A2 = A ∧ x2.length + i.toNat ≤ x.length + o.length ∧ e ≠ 0 ∧ ∀ V L, SlOk d r c t a T A V → TopOk k m L → exF f V k (o.drop i.toNat) L R = (([], []), e)
def exLR4 : exLZ → qReF4 → qReF6 → Prop := fun (((), (), (), (), (), (), (), o, n, i, ()), (d, r, c, t, a, x, ()), T, A, (), ((), ()), (f, ()), (k, h, ()), m, ((), R, ()), (), ((), (), ()), ()) (_, e, _) ((d2, r2, c2, t2, a2, _), T2, A2, _) => d2 = d ∧ r2 = r ∧ c2 = c ∧ t2 = t ∧ a2 = a ∧ T2 = T ∧ A2 = A ∧ e ≠ 0 ∧ ∀ V L, SlOk d r c t a T A V → TopOk k m L → exF f V k (o.drop i.toNat) L R = (([], []), e)
noncomputable def exLC : uB5 := uC9 3 exLFs (exLAlts exLR0 exLR1 exLR2 exLR3 exLR4) exLInv
theorem exLStep : uA3 PP qReFk0 100 9 95 (uAd PP 9 8) 3 true exLFs (exLAlts exLR0 exLR1 exLR2 exLR3 exLR4) exLInv exLMu ⟨_, _, exLSl, exLBl, fun x y => (x, y)⟩ := by
 intro x y hz
 obtain ⟨_, _, _, _, _, _, _, o, n, i, _⟩ := x
 obtain ⟨⟨d, r, c, t, a, x, _⟩, T, A, _, ⟨_, _⟩, ⟨f, _⟩, ⟨k, h, _⟩, m, ⟨_, R, _⟩, _, ⟨_, _, _⟩, _⟩ := y
 refine (exLForm o n i d r c t a x T A f k h m R _ _ _ _ _ _).mpr ?_
 obtain ⟨q, V, L, rfl, rfl, hq, hol, hos, hV, hk0, rfl, hT, hmq, hRq, hxq⟩ := hz
 rw [uAe]
 simp only [uAt]
 split
 ·rename_i hlt
  have hql : q < o.length := by simpa using hlt
  refine ⟨uAk hql, _, nth_cd0 hql, _, nth_cd1 hql, _, nth_cd2 hql, _, nth_cd3 hql, Or.inl ⟨m, rfl, (by trivial), rfl, fun cw dw hw => ?_, trivial⟩⟩
  obtain ⟨nw, fw, _⟩ := cw
  obtain ⟨⟨k2, h2, _⟩, m2, _⟩ := dw
  obtain ⟨hwv, hk2, hh2, hm2⟩ := hw
  obtain rfl : k = k2 := hk2.symm
  obtain rfl : h2 = (m.length, m.length) := hh2
  obtain rfl : m = m2 := hm2.symm
  have hE : ∀ V' L', SlOk d r c t a T A V' → TopOk k m L' → (nw, fw) = uB2 k L' := fun V' L' _ hT' => hwv.trans hT'.worst
  dsimp only
  cases hfw : fw with
  | true =>
   rw [uAj rfl]
   refine ⟨Nat.le_refl _, nw.1, rfl, o[q], rfl, trivial, ?_⟩
   rw [uAe]
   split
   ·rename_i hfar
    refine Or.inl ⟨trivial, x, ⟨WkL.refl _, (by trivial), (by trivial)⟩, T, rfl, A, rfl, m, rfl, R, ⟨WkL.refl _, (by trivial), (by trivial)⟩, (by trivial), rfl, rfl, rfl, rfl, rfl, rfl, rfl, by show x.length + q ≤ _; omega, rfl, rfl, by show m.length ≤ 60; omega, fun V' L' hV' hT' => ⟨L', hT', ?_⟩⟩
    show exF f V' k (o.drop q) L' R = _
    rw [uBx hql, exF, ← hE V' L' hV' hT', if_pos ⟨hfw, hfar⟩]
   ·rename_i hnf
    refine Or.inr ⟨o[q], rfl, f, Wk.refl _, x, ⟨WkL.refl _, (by trivial), (by trivial)⟩, T, rfl, A, rfl, (by trivial), ⟨hos _ (List.getElem_mem hql), by show x.length ≤ _; omega, V, hV⟩, fun cr dr hr => ?_, trivial⟩
    obtain ⟨w, e, _⟩ := cr
    obtain ⟨_, ⟨f2, _⟩, ⟨d2, r2, c2, t2, a2, x2, _⟩, T2, A2, _, _⟩ := dr
    obtain ⟨q1, q2, q3, q4, q5, q6, q7, q8, hx2, hre⟩ := hr
    obtain rfl : d = d2 := q1.symm
    obtain rfl : r = r2 := q2.symm
    obtain rfl : c = c2 := q3.symm
    obtain rfl : t = t2 := q4.symm
    obtain rfl : a = a2 := q5.symm
    obtain rfl : f = f2 := q6.symm
    obtain rfl : T = T2 := q7.symm
    obtain rfl : A = A2 := q8.symm
    have hx2' : x2.length ≤ x.length + 1 := hx2
    have hxl0 : x.length ≤ 999900 + q := hxq
    dsimp only
    refine ⟨Nat.le_refl _, ?_⟩
    rw [uBu]
    split
    ·rename_i he0
     obtain rfl : e = 0 := he0
     refine ⟨Nat.le_refl _, ?_⟩
     rw [uAj (uAg (by show R.length + 1 ≤ _; omega) (by decide))]
     refine ⟨w.1, rfl, w.2.1, rfl, Or.inl ⟨w, rfl, m, rfl, (by trivial), ⟨rfl, hT.h, by omega, by omega⟩, fun ca da ha => ?_, trivial⟩⟩
     obtain ⟨b, e3, _⟩ := ca
     obtain ⟨⟨k3, h3, _⟩, m3, _⟩ := da
     obtain ⟨_, hk3, hh3, hadd⟩ := ha
     obtain rfl : k = k3 := hk3.symm
     obtain rfl : h3 = (m3.length, m3.length) := hh3
     obtain ⟨hb, hT3⟩ := hT.add (by omega) hadd
     refine ⟨trivial, Or.inl ⟨o, Wk.refl _, x2, ⟨WkL.refl _, (by trivial), (by trivial)⟩, T, rfl, A, rfl, f, Wk.refl _, m3, rfl, R ++ [(o[q].1, nw.1, ())], ⟨wkl_snoc (E := En) (WkL.refl _), len_snoc, (by trivial)⟩, (by trivial), ?_⟩⟩
     rw [uCb (by omega)]
     have hstep : ∀ V' L', SlOk d r c t a T A V' → TopOk k m L' → exF f V' k (o.drop q) L' R = exF f V' k (o.drop (q + 1)) (uBr k L' w) (R ++ [(o[q].1, nw.1, ())]) := fun V' L' hV' hT' => by
      rw [uBx hql, exF, ← hE V' L' hV' hT', ← hre V' hV', if_neg (show ¬ (fw = true ∧ nw.1 < lowV o[q]) by rintro ⟨_, h9⟩; exact hnf h9), if_neg (by simp)]
      simp only [hfw, if_true]
     have hl3 : m3.length ≤ q + 1 := by
      unfold addOk at hadd
      split at hadd
      ·have := hadd.2.1.length_eq; simp at this; omega
      ·split at hadd
       ·rw [hadd.2]; omega
       ·have := hadd.2.1.length_eq; simp at this; omega
     refine ⟨⟨q + 1, V, uBr k L w, rfl, rfl, hql, hol, hos, hV, hk0, rfl, hT3, hl3, by show (R ++ [_]).length ≤ q + 1; simp; omega, by show x2.length ≤ 999900 + (q + 1); omega⟩, by show o.length - (q + 1) < o.length - q; omega, fun cc dd hh => ?_, fun cc dd hh => ?_, fun cc dd hh => ?_, fun cc dd hh => ?_, fun cc dd hh => ?_, trivial⟩
     ·obtain ⟨⟨d9, r9, c9, t9, a9, x9, _⟩, T9, A9, _, ⟨k9, h9, _⟩, m9, ⟨_, R9, _⟩, _⟩ := dd
      obtain ⟨g1, g2, g3, g4, g5, g6, g7, gx, g8, g9, g10, gE⟩ := hh
      have gx' : x9.length + (q + 1) ≤ x2.length + o.length := gx
      exact ⟨g1, g2, g3, g4, g5, g6, g7, by show x9.length + q ≤ x.length + o.length; omega, g8, g9, g10, fun V' L' hV' hT' => by
       obtain ⟨L2, y1, y2⟩ := gE V' (uBr k L' w) hV' (hT'.add (by omega) hadd).2
       exact ⟨L2, y1, (hstep V' L' hV' hT').trans y2⟩⟩
     ·obtain ⟨⟨d9, r9, c9, t9, a9, x9, _⟩, T9, A9, _⟩ := dd
      obtain ⟨g1, g2, g3, g4, g5, g6, g7, gx, gE⟩ := hh
      have gx' : x9.length + (q + 1) ≤ x2.length + o.length := gx
      exact ⟨g1, g2, g3, g4, g5, g6, g7, by show x9.length + q ≤ x.length + o.length; omega, fun V' L' hV' hT' => (hstep V' L' hV' hT').trans (gE V' (uBr k L' w) hV' (hT'.add (by omega) hadd).2)⟩
     ·obtain ⟨⟨d9, r9, c9, t9, a9, _⟩, T9, A9, _⟩ := dd
      obtain ⟨g1, g2, g3, g4, g5, g6, g7, gE⟩ := hh
      exact ⟨g1, g2, g3, g4, g5, g6, g7, fun V' L' hV' hT' => (hstep V' L' hV' hT').trans (gE V' (uBr k L' w) hV' (hT'.add (by omega) hadd).2)⟩
     ·obtain ⟨_, e9, _⟩ := cc
      obtain ⟨⟨d9, r9, c9, t9, a9, x9, _⟩, T9, A9, _⟩ := dd
      obtain ⟨g1, g2, g3, g4, g5, g6, g7, gx, ge, gE⟩ := hh
      have gx' : x9.length + (q + 1) ≤ x2.length + o.length := gx
      exact ⟨g1, g2, g3, g4, g5, g6, g7, by show x9.length + q ≤ x.length + o.length; omega, ge, fun V' L' hV' hT' => (hstep V' L' hV' hT').trans (gE V' (uBr k L' w) hV' (hT'.add (by omega) hadd).2)⟩
     ·obtain ⟨_, e9, _⟩ := cc
      obtain ⟨⟨d9, r9, c9, t9, a9, _⟩, T9, A9, _⟩ := dd
      obtain ⟨g1, g2, g3, g4, g5, g6, g7, ge, gE⟩ := hh
      exact ⟨g1, g2, g3, g4, g5, g6, g7, ge, fun V' L' hV' hT' => (hstep V' L' hV' hT').trans (gE V' (uBr k L' w) hV' (hT'.add (by omega) hadd).2)⟩
    ·rename_i he0
     exact Or.inl ⟨ trivial, x2, ⟨WkL.refl _, (by trivial), (by trivial)⟩, T, rfl, A, rfl, (by trivial), rfl, rfl, rfl, rfl, rfl, rfl, rfl, by show x2.length + q ≤ x.length + o.length; omega, he0, fun V' L' hV' hT' => by
      show exF f V' k (o.drop q) L' R = _
      rw [uBx hql, exF, ← hE V' L' hV' hT', ← hre V' hV', if_neg (show ¬ (fw = true ∧ nw.1 < lowV o[q]) by rintro ⟨_, h9⟩; exact hnf h9), if_pos he0]⟩
  | false =>
   rw [uDn rfl]
   refine ⟨Nat.le_refl _, ?_⟩
   refine Or.inr ⟨o[q], rfl, f, Wk.refl _, x, ⟨WkL.refl _, (by trivial), (by trivial)⟩, T, rfl, A, rfl, (by trivial), ⟨hos _ (List.getElem_mem hql), by show x.length ≤ _; omega, V, hV⟩, fun cr dr hr => ?_, trivial⟩
   obtain ⟨w, e, _⟩ := cr
   obtain ⟨_, ⟨f2, _⟩, ⟨d2, r2, c2, t2, a2, x2, _⟩, T2, A2, _, _⟩ := dr
   obtain ⟨q1, q2, q3, q4, q5, q6, q7, q8, hx2, hre⟩ := hr
   obtain rfl : d = d2 := q1.symm
   obtain rfl : r = r2 := q2.symm
   obtain rfl : c = c2 := q3.symm
   obtain rfl : t = t2 := q4.symm
   obtain rfl : a = a2 := q5.symm
   obtain rfl : f = f2 := q6.symm
   obtain rfl : T = T2 := q7.symm
   obtain rfl : A = A2 := q8.symm
   have hx2' : x2.length ≤ x.length + 1 := hx2
   have hxl0 : x.length ≤ 999900 + q := hxq
   dsimp only
   refine ⟨Nat.le_refl _, ?_⟩
   rw [uBu]
   split
   ·rename_i he0
    obtain rfl : e = 0 := he0
    refine ⟨Nat.le_refl _, ?_⟩
    rw [uAj (uAg (by show R.length + 1 ≤ _; omega) (by decide))]
    refine ⟨w.1, rfl, w.2.1, rfl, Or.inl ⟨w, rfl, m, rfl, (by trivial), ⟨rfl, hT.h, by omega, by omega⟩, fun ca da ha => ?_, trivial⟩⟩
    obtain ⟨b, e3, _⟩ := ca
    obtain ⟨⟨k3, h3, _⟩, m3, _⟩ := da
    obtain ⟨_, hk3, hh3, hadd⟩ := ha
    obtain rfl : k = k3 := hk3.symm
    obtain rfl : h3 = (m3.length, m3.length) := hh3
    obtain ⟨hb, hT3⟩ := hT.add (by omega) hadd
    refine ⟨trivial, Or.inl ⟨o, Wk.refl _, x2, ⟨WkL.refl _, (by trivial), (by trivial)⟩, T, rfl, A, rfl, f, Wk.refl _, m3, rfl, R ++ [(o[q].1, (-1 : Int), ())], ⟨wkl_snoc (E := En) (WkL.refl _), len_snoc, (by trivial)⟩, (by trivial), ?_⟩⟩
    rw [uCb (by omega)]
    have hstep : ∀ V' L', SlOk d r c t a T A V' → TopOk k m L' → exF f V' k (o.drop q) L' R = exF f V' k (o.drop (q + 1)) (uBr k L' w) (R ++ [(o[q].1, (-1 : Int), ())]) := fun V' L' hV' hT' => by
     rw [uBx hql, exF, ← hE V' L' hV' hT', ← hre V' hV', if_neg (show ¬ (fw = true ∧ nw.1 < lowV o[q]) by rw [hfw]; rintro ⟨h9, _⟩; cases h9), if_neg (by simp)]
     simp only [hfw, Bool.false_eq_true, if_false]
    have hl3 : m3.length ≤ q + 1 := by
     unfold addOk at hadd
     split at hadd
     ·have := hadd.2.1.length_eq; simp at this; omega
     ·split at hadd
      ·rw [hadd.2]; omega
      ·have := hadd.2.1.length_eq; simp at this; omega
    refine ⟨⟨q + 1, V, uBr k L w, rfl, rfl, hql, hol, hos, hV, hk0, rfl, hT3, hl3, by show (R ++ [_]).length ≤ q + 1; simp; omega, by show x2.length ≤ 999900 + (q + 1); omega⟩, by show o.length - (q + 1) < o.length - q; omega, fun cc dd hh => ?_, fun cc dd hh => ?_, fun cc dd hh => ?_, fun cc dd hh => ?_, fun cc dd hh => ?_, trivial⟩
    ·obtain ⟨⟨d9, r9, c9, t9, a9, x9, _⟩, T9, A9, _, ⟨k9, h9, _⟩, m9, ⟨_, R9, _⟩, _⟩ := dd
     obtain ⟨g1, g2, g3, g4, g5, g6, g7, gx, g8, g9, g10, gE⟩ := hh
     have gx' : x9.length + (q + 1) ≤ x2.length + o.length := gx
     exact ⟨g1, g2, g3, g4, g5, g6, g7, by show x9.length + q ≤ x.length + o.length; omega, g8, g9, g10, fun V' L' hV' hT' => by
      obtain ⟨L2, y1, y2⟩ := gE V' (uBr k L' w) hV' (hT'.add (by omega) hadd).2
      exact ⟨L2, y1, (hstep V' L' hV' hT').trans y2⟩⟩
    ·obtain ⟨⟨d9, r9, c9, t9, a9, x9, _⟩, T9, A9, _⟩ := dd
     obtain ⟨g1, g2, g3, g4, g5, g6, g7, gx, gE⟩ := hh
     have gx' : x9.length + (q + 1) ≤ x2.length + o.length := gx
     exact ⟨g1, g2, g3, g4, g5, g6, g7, by show x9.length + q ≤ x.length + o.length; omega, fun V' L' hV' hT' => (hstep V' L' hV' hT').trans (gE V' (uBr k L' w) hV' (hT'.add (by omega) hadd).2)⟩
    ·obtain ⟨⟨d9, r9, c9, t9, a9, _⟩, T9, A9, _⟩ := dd
     obtain ⟨g1, g2, g3, g4, g5, g6, g7, gE⟩ := hh
     exact ⟨g1, g2, g3, g4, g5, g6, g7, fun V' L' hV' hT' => (hstep V' L' hV' hT').trans (gE V' (uBr k L' w) hV' (hT'.add (by omega) hadd).2)⟩
    ·obtain ⟨_, e9, _⟩ := cc
     obtain ⟨⟨d9, r9, c9, t9, a9, x9, _⟩, T9, A9, _⟩ := dd
     obtain ⟨g1, g2, g3, g4, g5, g6, g7, gx, ge, gE⟩ := hh
     have gx' : x9.length + (q + 1) ≤ x2.length + o.length := gx
     exact ⟨g1, g2, g3, g4, g5, g6, g7, by show x9.length + q ≤ x.length + o.length; omega, ge, fun V' L' hV' hT' => (hstep V' L' hV' hT').trans (gE V' (uBr k L' w) hV' (hT'.add (by omega) hadd).2)⟩
    ·obtain ⟨_, e9, _⟩ := cc
     obtain ⟨⟨d9, r9, c9, t9, a9, _⟩, T9, A9, _⟩ := dd
     obtain ⟨g1, g2, g3, g4, g5, g6, g7, ge, gE⟩ := hh
     exact ⟨g1, g2, g3, g4, g5, g6, g7, ge, fun V' L' hV' hT' => (hstep V' L' hV' hT').trans (gE V' (uBr k L' w) hV' (hT'.add (by omega) hadd).2)⟩
   ·rename_i he0
    exact Or.inl ⟨ trivial, x2, ⟨WkL.refl _, (by trivial), (by trivial)⟩, T, rfl, A, rfl, (by trivial), rfl, rfl, rfl, rfl, rfl, rfl, rfl, by show x2.length + q ≤ x.length + o.length; omega, he0, fun V' L' hV' hT' => by
     show exF f V' k (o.drop q) L' R = _
     rw [uBx hql, exF, ← hE V' L' hV' hT', ← hre V' hV', if_neg (show ¬ (fw = true ∧ nw.1 < lowV o[q]) by rw [hfw]; rintro ⟨h9, _⟩; cases h9), if_pos he0]⟩
 ·rename_i hlt
  have hql : ¬ q < o.length := by simpa using hlt
  exact Or.inl ⟨trivial, x, ⟨WkL.refl _, (by trivial), (by trivial)⟩, T, rfl, A, rfl, m, rfl, R, ⟨WkL.refl _, (by trivial), (by trivial)⟩, (by trivial), rfl, rfl, rfl, rfl, rfl, rfl, rfl, by show x.length + q ≤ _; omega, rfl, rfl, by show m.length ≤ 60; omega, fun V' L' hV' hT' => ⟨L', hT', by
   show exF f V' k (o.drop q) L' R = _
   rw [List.drop_of_length_le (by omega)]; rfl⟩⟩
theorem exLStep0 : uA3 PP qReFk0 100 9 95 (uAd PP 9 8) 3 true exLFs (exLAlts exLR0 exLR1 exLR2 exLR3 exLR4) exLInv exLMu ⟨_, _, exLSl0, exLBl0, exLZ0⟩ := by
 intro x y hz
 obtain ⟨_, _, _, _, _, _, _, o, n, i, _⟩ := x
 obtain ⟨⟨d, r, c, t, a, x, _⟩, T, A, _, ⟨_, _⟩, ⟨f, _⟩, ⟨k, _, _⟩, ⟨_, _, _⟩, ⟨_, _, _⟩, _⟩ := y
 refine (exLForm0 o n i d r c t a x T A f k _ _ _ _ _ _).mpr ?_
 obtain ⟨q, V, L, rfl, rfl, hq, hol, hos, hV, hk0, _, hT, hmq, hRq, hxq⟩ := hz
 rw [uAe]
 simp only [uAt]
 split
 ·rename_i hlt
  have hql : q < o.length := by simpa using hlt
  refine ⟨uAk hql, _, nth_cd0 hql, _, nth_cd1 hql, _, nth_cd2 hql, _, nth_cd3 hql, Or.inr ⟨(by trivial), trivial, fun cw dw hw => ?_, trivial⟩⟩
  obtain ⟨nw, fw, _⟩ := cw
  obtain ⟨⟨k2, _, _⟩, _⟩ := dw
  obtain ⟨hwv, hk2⟩ := hw
  obtain rfl : k = k2 := hk2.symm
  have hE : ∀ V' L', SlOk d r c t a T A V' → TopOk k ([] : List Near) L' → (nw, fw) = uB2 k L' := fun V' L' _ hT' => hwv.trans hT'.worst
  dsimp only
  have hfw : fw = false := by
   have h9 := congrArg Prod.snd hwv
   have h8 : (worstV k []).2 = false := by rw [worstV, if_neg (by simp; omega)]
   exact h9.trans h8
  rw [uDn hfw]
  refine ⟨Nat.le_refl _, ?_⟩
  refine Or.inr ⟨o[q], rfl, f, Wk.refl _, x, ⟨WkL.refl _, (by trivial), (by trivial)⟩, T, rfl, A, rfl, (by trivial), ⟨hos _ (List.getElem_mem hql), by show x.length ≤ _; omega, V, hV⟩, fun cr dr hr => ?_, trivial⟩
  obtain ⟨w, e, _⟩ := cr
  obtain ⟨_, ⟨f2, _⟩, ⟨d2, r2, c2, t2, a2, x2, _⟩, T2, A2, _, _⟩ := dr
  obtain ⟨q1, q2, q3, q4, q5, q6, q7, q8, hx2, hre⟩ := hr
  obtain rfl : d = d2 := q1.symm
  obtain rfl : r = r2 := q2.symm
  obtain rfl : c = c2 := q3.symm
  obtain rfl : t = t2 := q4.symm
  obtain rfl : a = a2 := q5.symm
  obtain rfl : f = f2 := q6.symm
  obtain rfl : T = T2 := q7.symm
  obtain rfl : A = A2 := q8.symm
  have hx2' : x2.length ≤ x.length + 1 := hx2
  have hxl0 : x.length ≤ 999900 + q := hxq
  dsimp only
  refine ⟨Nat.le_refl _, ?_⟩
  rw [uBu]
  split
  ·rename_i he0
   obtain rfl : e = 0 := he0
   refine ⟨Nat.le_refl _, w.1, rfl, w.2.1, rfl, Or.inr ⟨w, rfl, (by trivial), by show 0 ≤ k; omega, fun ca da ha => ?_, fun ca da ha => ?_, trivial⟩⟩
   ·exfalso
    obtain ⟨b, e3, _⟩ := ca
    obtain ⟨⟨k3, _, _⟩, _⟩ := da
    obtain ⟨_, _, _, h9⟩ := ha
    have h9' : k = 0 := h9
    omega
   obtain ⟨b, e3, _⟩ := ca
   obtain ⟨⟨k3, h3, _⟩, m3, _⟩ := da
   obtain ⟨hb0, _, hk3, _, hh3, hm3⟩ := ha
   obtain rfl : k = k3 := hk3.symm
   obtain rfl : m3 = [w] := hm3
   obtain rfl : h3 = (1, 1) := hh3
   have hadd : addOk k ([] : List Near) w b [w] := by rw [addOk, if_pos (by simp; omega)]; exact ⟨hb0, List.Perm.refl _, fun j hj h0 => by simp at hj; omega⟩
   obtain ⟨hb, hT3⟩ := hT.add (by omega) hadd
   generalize hm3g : [w] = m3 at *
   have hm3l : m3.length = 1 := by rw [← hm3g]; rfl
   refine ⟨trivial, Or.inl ⟨o, Wk.refl _, x2, ⟨WkL.refl _, (by trivial), (by trivial)⟩, T, rfl, A, rfl, f, Wk.refl _, m3, rfl, [(o[q].1, (-1 : Int), ())], ⟨wkl_one (E := En) (WkL.refl _), (by trivial), (by trivial)⟩, (by trivial), ?_⟩⟩
   rw [uCb (by omega)]
   have hstep : ∀ V' L', SlOk d r c t a T A V' → TopOk k ([] : List Near) L' → exF f V' k (o.drop q) L' ([] : List Near) = exF f V' k (o.drop (q + 1)) (uBr k L' w) (([] : List Near) ++ [(o[q].1, (-1 : Int), ())]) := fun V' L' hV' hT' => by
    rw [uBx hql, exF, ← hE V' L' hV' hT', ← hre V' hV', if_neg (show ¬ (fw = true ∧ nw.1 < lowV o[q]) by rw [hfw]; rintro ⟨h9, _⟩; cases h9), if_neg (by simp)]
    simp only [hfw, Bool.false_eq_true, if_false]
   have hl3 : m3.length ≤ q + 1 := by
    unfold addOk at hadd
    split at hadd
    ·have := hadd.2.1.length_eq; simp at this; omega
    ·split at hadd
     ·rw [hadd.2]; omega
     ·have := hadd.2.1.length_eq; simp at this; omega
   refine ⟨⟨q + 1, V, uBr k L w, rfl, rfl, hql, hol, hos, hV, hk0, by show (1, 1) = (m3.length, m3.length); rw [hm3l], hT3, hl3, by show 1 ≤ q + 1; omega, by show x2.length ≤ 999900 + (q + 1); omega⟩, by show o.length - (q + 1) < o.length - q; omega, fun cc dd hh => ?_, fun cc dd hh => ?_, fun cc dd hh => ?_, fun cc dd hh => ?_, fun cc dd hh => ?_, trivial⟩
   ·obtain ⟨⟨d9, r9, c9, t9, a9, x9, _⟩, T9, A9, _, ⟨k9, h9, _⟩, m9, ⟨_, R9, _⟩, _⟩ := dd
    obtain ⟨g1, g2, g3, g4, g5, g6, g7, gx, g8, g9, g10, gE⟩ := hh
    have gx' : x9.length + (q + 1) ≤ x2.length + o.length := gx
    exact ⟨g1, g2, g3, g4, g5, g6, g7, by show x9.length + q ≤ x.length + o.length; omega, g8, g9, g10, fun V' L' hV' hT' => by
     obtain ⟨L2, y1, y2⟩ := gE V' (uBr k L' w) hV' (hT'.add (by omega) hadd).2
     exact ⟨L2, y1, (hstep V' L' hV' hT').trans y2⟩⟩
   ·obtain ⟨⟨d9, r9, c9, t9, a9, x9, _⟩, T9, A9, _⟩ := dd
    obtain ⟨g1, g2, g3, g4, g5, g6, g7, gx, gE⟩ := hh
    have gx' : x9.length + (q + 1) ≤ x2.length + o.length := gx
    exact ⟨g1, g2, g3, g4, g5, g6, g7, by show x9.length + q ≤ x.length + o.length; omega, fun V' L' hV' hT' => (hstep V' L' hV' hT').trans (gE V' (uBr k L' w) hV' (hT'.add (by omega) hadd).2)⟩
   ·obtain ⟨⟨d9, r9, c9, t9, a9, _⟩, T9, A9, _⟩ := dd
    obtain ⟨g1, g2, g3, g4, g5, g6, g7, gE⟩ := hh
    exact ⟨g1, g2, g3, g4, g5, g6, g7, fun V' L' hV' hT' => (hstep V' L' hV' hT').trans (gE V' (uBr k L' w) hV' (hT'.add (by omega) hadd).2)⟩
   ·obtain ⟨_, e9, _⟩ := cc
    obtain ⟨⟨d9, r9, c9, t9, a9, x9, _⟩, T9, A9, _⟩ := dd
    obtain ⟨g1, g2, g3, g4, g5, g6, g7, gx, ge, gE⟩ := hh
    have gx' : x9.length + (q + 1) ≤ x2.length + o.length := gx
    exact ⟨g1, g2, g3, g4, g5, g6, g7, by show x9.length + q ≤ x.length + o.length; omega, ge, fun V' L' hV' hT' => (hstep V' L' hV' hT').trans (gE V' (uBr k L' w) hV' (hT'.add (by omega) hadd).2)⟩
   ·obtain ⟨_, e9, _⟩ := cc
    obtain ⟨⟨d9, r9, c9, t9, a9, _⟩, T9, A9, _⟩ := dd
    obtain ⟨g1, g2, g3, g4, g5, g6, g7, ge, gE⟩ := hh
    exact ⟨g1, g2, g3, g4, g5, g6, g7, ge, fun V' L' hV' hT' => (hstep V' L' hV' hT').trans (gE V' (uBr k L' w) hV' (hT'.add (by omega) hadd).2)⟩
  ·rename_i he0
   exact Or.inl ⟨ trivial, x2, ⟨WkL.refl _, (by trivial), (by trivial)⟩, T, rfl, A, rfl, (by trivial), rfl, rfl, rfl, rfl, rfl, rfl, rfl, by show x2.length + q ≤ x.length + o.length; omega, he0, fun V' L' hV' hT' => by
    show exF f V' k (o.drop q) L' ([] : List Near) = _
    rw [uBx hql, exF, ← hE V' L' hV' hT', ← hre V' hV', if_neg (show ¬ (fw = true ∧ nw.1 < lowV o[q]) by rw [hfw]; rintro ⟨h9, _⟩; cases h9), if_pos he0]⟩
 ·rename_i hlt
  have hql : ¬ q < o.length := by simpa using hlt
  exact Or.inr (Or.inl ⟨trivial, x, ⟨WkL.refl _, (by trivial), (by trivial)⟩, T, rfl, A, rfl, (by trivial), rfl, rfl, rfl, rfl, rfl, rfl, rfl, by show x.length + q ≤ _; omega, fun V' L' hV' hT' => by
   obtain rfl : L' = [] := List.length_eq_zero_iff.1 hT'.len.symm
   show exF f V' k (o.drop q) [] [] = _
   rw [List.drop_of_length_le (by omega)]; rfl⟩)
theorem exLStep1 : uA3 PP qReFk0 100 9 95 (uAd PP 9 8) 3 true exLFs (exLAlts exLR0 exLR1 exLR2 exLR3 exLR4) exLInv exLMu ⟨_, _, exLSl1, exLBl1, exLZ1⟩ := by
 intro x y hz
 obtain ⟨_, _, _, _, _, _, _, o, n, i, _⟩ := x
 obtain ⟨⟨d, r, c, t, a, _, _⟩, T, A, ⟨_, _⟩, ⟨f, _⟩, ⟨k, _, _⟩, ⟨_, _, _⟩, ⟨_, _, _⟩, _⟩ := y
 refine (exLForm1 o n i d r c t a T A f k _ _ _ _ _ _).mpr ?_
 obtain ⟨q, V, L, rfl, rfl, hq, hol, hos, hV, hk0, _, hT, hmq, hRq, hxq⟩ := hz
 rw [uAe]
 simp only [uAt]
 split
 ·rename_i hlt
  have hql : q < o.length := by simpa using hlt
  refine ⟨uAk hql, _, nth_cd0 hql, _, nth_cd1 hql, _, nth_cd2 hql, _, nth_cd3 hql, Or.inr ⟨(by trivial), trivial, fun cw dw hw => ?_, trivial⟩⟩
  obtain ⟨nw, fw, _⟩ := cw
  obtain ⟨⟨k2, _, _⟩, _⟩ := dw
  obtain ⟨hwv, hk2⟩ := hw
  obtain rfl : k = k2 := hk2.symm
  have hE : ∀ V' L', SlOk d r c t a T A V' → TopOk k ([] : List Near) L' → (nw, fw) = uB2 k L' := fun V' L' _ hT' => hwv.trans hT'.worst
  dsimp only
  have hfw : fw = false := by
   have h9 := congrArg Prod.snd hwv
   have h8 : (worstV k []).2 = false := by rw [worstV, if_neg (by simp; omega)]
   exact h9.trans h8
  rw [uDn hfw]
  refine ⟨Nat.le_refl _, ?_⟩
  refine Or.inl ⟨o[q], rfl, f, Wk.refl _, T, rfl, A, rfl, (by trivial), ⟨hos _ (List.getElem_mem hql), V, hV⟩, fun cr dr hr => ?_, fun cr dr hr => ?_, trivial⟩
  ·obtain ⟨w, e, _⟩ := cr
   obtain ⟨_, ⟨f2, _⟩, ⟨d2, r2, c2, t2, a2, _⟩, T2, A2, _⟩ := dr
   obtain ⟨q1, q2, q3, q4, q5, q6, q7, q8, he6, hre⟩ := hr
   obtain rfl : d = d2 := q1.symm
   obtain rfl : r = r2 := q2.symm
   obtain rfl : c = c2 := q3.symm
   obtain rfl : t = t2 := q4.symm
   obtain rfl : a = a2 := q5.symm
   obtain rfl : f = f2 := q6.symm
   obtain rfl : T = T2 := q7.symm
   obtain rfl : A = A2 := q8.symm
   have he0 : e ≠ 0 := by rw [he6]; decide
   dsimp only
   refine ⟨Nat.le_refl _, ?_⟩
   rw [uBu, if_neg he0]
   exact Or.inr ⟨ trivial, T, rfl, A, rfl, (by trivial), rfl, rfl, rfl, rfl, rfl, rfl, rfl, he0, fun V' L' hV' hT' => by
    show exF f V' k (o.drop q) L' ([] : List Near) = _
    rw [uBx hql, exF, ← hE V' L' hV' hT', ← hre V' hV', if_neg (show ¬ (fw = true ∧ nw.1 < lowV o[q]) by rw [hfw]; rintro ⟨h9, _⟩; cases h9), if_pos he0]⟩
  ·skip
   obtain ⟨w, e, _⟩ := cr
   obtain ⟨_, ⟨f2, _⟩, ⟨d2, r2, c2, t2, a2, x2, _⟩, T2, A2, _, _⟩ := dr
   obtain ⟨q1, q2, q3, q4, q5, q6, q7, q8, hx2, hre⟩ := hr
   obtain rfl : d = d2 := q1.symm
   obtain rfl : r = r2 := q2.symm
   obtain rfl : c = c2 := q3.symm
   obtain rfl : t = t2 := q4.symm
   obtain rfl : a = a2 := q5.symm
   obtain rfl : f = f2 := q6.symm
   obtain rfl : T = T2 := q7.symm
   obtain rfl : A = A2 := q8.symm
   have hx2' : x2.length ≤ ([] : List Int).length + 1 := hx2
   have hxl0 : ([] : List Int).length ≤ 999900 + q := hxq
   dsimp only
   refine ⟨Nat.le_refl _, ?_⟩
   rw [uBu]
   split
   ·rename_i he0
    obtain rfl : e = 0 := he0
    refine ⟨Nat.le_refl _, w.1, rfl, w.2.1, rfl, Or.inr ⟨w, rfl, (by trivial), by show 0 ≤ k; omega, fun ca da ha => ?_, fun ca da ha => ?_, trivial⟩⟩
    ·exfalso
     obtain ⟨b, e3, _⟩ := ca
     obtain ⟨⟨k3, _, _⟩, _⟩ := da
     obtain ⟨_, _, _, h9⟩ := ha
     have h9' : k = 0 := h9
     omega
    obtain ⟨b, e3, _⟩ := ca
    obtain ⟨⟨k3, h3, _⟩, m3, _⟩ := da
    obtain ⟨hb0, _, hk3, _, hh3, hm3⟩ := ha
    obtain rfl : k = k3 := hk3.symm
    obtain rfl : m3 = [w] := hm3
    obtain rfl : h3 = (1, 1) := hh3
    have hadd : addOk k ([] : List Near) w b [w] := by rw [addOk, if_pos (by simp; omega)]; exact ⟨hb0, List.Perm.refl _, fun j hj h0 => by simp at hj; omega⟩
    obtain ⟨hb, hT3⟩ := hT.add (by omega) hadd
    generalize hm3g : [w] = m3 at *
    have hm3l : m3.length = 1 := by rw [← hm3g]; rfl
    refine ⟨trivial, Or.inl ⟨o, Wk.refl _, x2, ⟨WkL.refl _, (by trivial), (by trivial)⟩, T, rfl, A, rfl, f, Wk.refl _, m3, rfl, [(o[q].1, (-1 : Int), ())], ⟨wkl_one (E := En) (WkL.refl _), (by trivial), (by trivial)⟩, (by trivial), ?_⟩⟩
    rw [uCb (by omega)]
    have hstep : ∀ V' L', SlOk d r c t a T A V' → TopOk k ([] : List Near) L' → exF f V' k (o.drop q) L' ([] : List Near) = exF f V' k (o.drop (q + 1)) (uBr k L' w) (([] : List Near) ++ [(o[q].1, (-1 : Int), ())]) := fun V' L' hV' hT' => by
     rw [uBx hql, exF, ← hE V' L' hV' hT', ← hre V' hV', if_neg (show ¬ (fw = true ∧ nw.1 < lowV o[q]) by rw [hfw]; rintro ⟨h9, _⟩; cases h9), if_neg (by simp)]
     simp only [hfw, Bool.false_eq_true, if_false]
    have hl3 : m3.length ≤ q + 1 := by
     unfold addOk at hadd
     split at hadd
     ·have := hadd.2.1.length_eq; simp at this; omega
     ·split at hadd
      ·rw [hadd.2]; omega
      ·have := hadd.2.1.length_eq; simp at this; omega
    refine ⟨⟨q + 1, V, uBr k L w, rfl, rfl, hql, hol, hos, hV, hk0, by show (1, 1) = (m3.length, m3.length); rw [hm3l], hT3, hl3, by show 1 ≤ q + 1; omega, by show x2.length ≤ 999900 + (q + 1); omega⟩, by show o.length - (q + 1) < o.length - q; omega, fun cc dd hh => ?_, fun cc dd hh => ?_, fun cc dd hh => ?_, fun cc dd hh => ?_, fun cc dd hh => ?_, trivial⟩
    ·obtain ⟨⟨d9, r9, c9, t9, a9, x9, _⟩, T9, A9, _, ⟨k9, h9, _⟩, m9, ⟨_, R9, _⟩, _⟩ := dd
     obtain ⟨g1, g2, g3, g4, g5, g6, g7, gx, g8, g9, g10, gE⟩ := hh
     have gx' : x9.length + (q + 1) ≤ x2.length + o.length := gx
     exact ⟨g1, g2, g3, g4, g5, g6, g7, by show x9.length + q ≤ ([] : List Int).length + o.length; omega, g8, g9, g10, fun V' L' hV' hT' => by
      obtain ⟨L2, y1, y2⟩ := gE V' (uBr k L' w) hV' (hT'.add (by omega) hadd).2
      exact ⟨L2, y1, (hstep V' L' hV' hT').trans y2⟩⟩
    ·obtain ⟨⟨d9, r9, c9, t9, a9, x9, _⟩, T9, A9, _⟩ := dd
     obtain ⟨g1, g2, g3, g4, g5, g6, g7, gx, gE⟩ := hh
     have gx' : x9.length + (q + 1) ≤ x2.length + o.length := gx
     exact ⟨g1, g2, g3, g4, g5, g6, g7, by show x9.length + q ≤ ([] : List Int).length + o.length; omega, fun V' L' hV' hT' => (hstep V' L' hV' hT').trans (gE V' (uBr k L' w) hV' (hT'.add (by omega) hadd).2)⟩
    ·obtain ⟨⟨d9, r9, c9, t9, a9, _⟩, T9, A9, _⟩ := dd
     obtain ⟨g1, g2, g3, g4, g5, g6, g7, gE⟩ := hh
     exact ⟨g1, g2, g3, g4, g5, g6, g7, fun V' L' hV' hT' => (hstep V' L' hV' hT').trans (gE V' (uBr k L' w) hV' (hT'.add (by omega) hadd).2)⟩
    ·obtain ⟨_, e9, _⟩ := cc
     obtain ⟨⟨d9, r9, c9, t9, a9, x9, _⟩, T9, A9, _⟩ := dd
     obtain ⟨g1, g2, g3, g4, g5, g6, g7, gx, ge, gE⟩ := hh
     have gx' : x9.length + (q + 1) ≤ x2.length + o.length := gx
     exact ⟨g1, g2, g3, g4, g5, g6, g7, by show x9.length + q ≤ ([] : List Int).length + o.length; omega, ge, fun V' L' hV' hT' => (hstep V' L' hV' hT').trans (gE V' (uBr k L' w) hV' (hT'.add (by omega) hadd).2)⟩
    ·obtain ⟨_, e9, _⟩ := cc
     obtain ⟨⟨d9, r9, c9, t9, a9, _⟩, T9, A9, _⟩ := dd
     obtain ⟨g1, g2, g3, g4, g5, g6, g7, ge, gE⟩ := hh
     exact ⟨g1, g2, g3, g4, g5, g6, g7, ge, fun V' L' hV' hT' => (hstep V' L' hV' hT').trans (gE V' (uBr k L' w) hV' (hT'.add (by omega) hadd).2)⟩
   ·rename_i he0
    exact Or.inl ⟨ trivial, x2, ⟨WkL.refl _, (by trivial), (by trivial)⟩, T, rfl, A, rfl, (by trivial), rfl, rfl, rfl, rfl, rfl, rfl, rfl, by show x2.length + q ≤ ([] : List Int).length + o.length; omega, he0, fun V' L' hV' hT' => by
     show exF f V' k (o.drop q) L' ([] : List Near) = _
     rw [uBx hql, exF, ← hE V' L' hV' hT', ← hre V' hV', if_neg (show ¬ (fw = true ∧ nw.1 < lowV o[q]) by rw [hfw]; rintro ⟨h9, _⟩; cases h9), if_pos he0]⟩
 ·rename_i hlt
  have hql : ¬ q < o.length := by simpa using hlt
  exact Or.inr (Or.inr ⟨trivial, T, rfl, A, rfl, (by trivial), rfl, rfl, rfl, rfl, rfl, rfl, rfl, fun V' L' hV' hT' => by
   obtain rfl : L' = [] := List.length_eq_zero_iff.1 hT'.len.symm
   show exF f V' k (o.drop q) [] [] = _
   rw [List.drop_of_length_le (by omega)]; rfl⟩)
theorem exLOk : uAs PP 9 95 (.loop (uAd PP 9 8)) (exLC) := uBf exLMu  mixed (uDp (uAi worstCc (uAi addCc (uAi lowCc (uAi rdCc (uAq)))))) rfl (uAo exLStep (uAo exLStep0 (uAo exLStep1 (uAx))))
end Go.Proofs.YteehkdejkemnmacDoor
namespace Go.Proofs.YteehkdejkemnmacDoor
open Go.Det Go.RowKit
set_option maxRecDepth 100000
noncomputable def chkE (q : List Int) (l : List Cd) (k : Int) : Int := if vchk q q.length ≠ 0 then vchk q q.length else if k < 0 ∨ 16777216 < k ∨ l.all mayC = false then 2 else 0
noncomputable def exV (q : List Int) (l : List Cd) (V : List (List Int)) (k : Int) : (List Near × List Near) × Int :=
 if chkE q l k ≠ 0 ∨ k = 0 then (([], []), chkE q l k) else exF (uAv q) V k (ordC l) [] []
theorem ordC_le (l : List Cd) : (ordC l).length ≤ l.length := by
 rw [ordC]; split
 ·exact Nat.le_of_eq (Stab.uDr l)
 ·exact Nat.zero_le _
theorem ordC_mem {l : List Cd} {u : Cd} (h : u ∈ ordC l) : u ∈ l := by
 rw [ordC] at h; split at h
 ·exact (Stab.sort_perm (lt := ltC) l).mem_iff.1 h
 ·simp at h
theorem TopOk.none {k : Int} (h : 0 ≤ k) : TopOk k [] [] := ⟨List.Perm.refl _, List.Pairwise.nil, fun j hj h0 => by simp at hj, h⟩
theorem chk_zero {q : List Int} {l : List Cd} {k : Int} (h : chkE q l k = 0) : vchk q q.length = 0 ∧ 0 ≤ k ∧ k ≤ 16777216 ∧ l.all mayC = true := by
 rw [chkE] at h
 split at h
 ·rename_i h1; exact absurd h h1
 ·rename_i h1
  split at h
  ·cases h
  ·rename_i h2
   exact ⟨by simpa using h1, by omega, by omega, by
    cases h3 : l.all mayC with
    | true => rfl
    | false => exact absurd (Or.inr (Or.inr h3)) h2⟩
abbrev chk2Z := ((List Int) × Int × Unit) × (Unit)
noncomputable def chk2T : Tel ((List Int) × Int × Unit) := .cons 0 (.lst Ei16) (.ji 1 (.nil))
noncomputable def chk2Bl : BTel (Unit) := .nil
noncomputable def chk2Res (R0 : chk2Z → (Unit × Unit) → (Unit) → Prop) (R1 : chk2Z → (Unit × Unit) → (Unit) → Prop) : List (Res chk2Z) := [⟨Unit × Unit, Unit, .cons 0 (.num .i64 0) (.nil), .nil, R0⟩, ⟨Unit × Unit, Unit, .cons 0 (.num .i64 2) (.nil), .nil, R1⟩]
theorem chk2Fn (u : List Int) (d : Int) (R0 R1 : chk2Z → (Unit × Unit) → (Unit) → Prop) : (uA2 PP (runW PP (KL [] []) 200) 31 (chk2T.cells id (u, d, ())) (stL false (chk2Bl.obs id ())) (fun v st => uA1 0 ((u, d, ()), ()) v st (chk2Res R0 R1))) = ( ifp (!uAf 1 d) (False ∨ true = true ∧ R1 ((u, d, ()), ()) ((), ()) ()) (ifp (!uAf d 1024) (False ∨ true = true ∧ R1 ((u, d, ()), ()) ((), ()) ()) (ifp (!uA0 (Int.ofNat u.length) d) (False ∨ true = true ∧ R1 ((u, d, ()), ()) ((), ()) ()) (true = true ∧ R0 ((u, d, ()), ()) ((), ()) () ∨ False)))) := by kernel_rfl
def chk2Pre : chk2Z → Prop := fun ((u, d, ()), ()) => True
def chk2R0 : chk2Z → (Unit × Unit) → (Unit) → Prop := fun ((u, d, ()), ()) _ _ => vchk u d = 0
def chk2R1 : chk2Z → (Unit × Unit) → (Unit) → Prop := fun ((u, d, ()), ()) _ _ => vchk u d = 2
noncomputable def chk2K : uA6 := uD4 0 chk2T chk2Bl chk2Pre (chk2Res chk2R0 chk2R1)
theorem chk2Step (z : chk2Z) (hp : chk2Pre z) : uA2 PP (runW PP (KL [] []) 200) 31 (chk2T.cells id z.1) (stL false (chk2Bl.obs id z.2)) (fun v st => uA1 0 z v st (chk2Res chk2R0 chk2R1)) := by
 obtain ⟨⟨u, d, _⟩, _⟩ := z
 refine (chk2Fn u d _ _).mpr ?_
 rw [uAe, uAe, uBu]
 split
 ·rename_i h; exact Or.inr ⟨rfl, if_pos (Or.inl h)⟩
 ·rename_i h
  split
  ·rename_i h2; exact Or.inr ⟨rfl, if_pos (Or.inr (Or.inl h2))⟩
  ·rename_i h2
   split
   ·rename_i h3; exact Or.inl ⟨rfl, if_neg (by have h3' : (u.length : Int) = d := h3; omega)⟩
   ·rename_i h3; exact Or.inr ⟨rfl, if_pos (Or.inr (Or.inr h3))⟩
theorem chk2Cc : CcOk PP 31 chk2K := uB4 mixed (uC8 (uAq)) rfl chk2Step
abbrev qReGt0 := Int × Int × Int × (Nat × Nat) × (Nat × Nat) × Unit × Unit
abbrev exNZ := ((List Int) × (List Cd) × Unit × Int × Unit) × (qReGt0 × (List Int) × (List Int) × Unit)
noncomputable def exNT : Tel ((List Int) × (List Cd) × Unit × Int × Unit) := .cons 0 (.lst Ei16) (.cons 1 (.lst Ec) (.cons 2 (.ptr 0) (.ji 3 (.nil))))
noncomputable def exNBl : BTel (qReGt0 × (List Int) × (List Int) × Unit) := .cons (.row (.ji 0 (.ji 1 (.ji 2 (.cons 3 (.slq 1 1) (.cons 4 (.slq 2 1) (.cons 5 (.nilS) (.nil)))))))) (.cons (.rows Eu64 89) (.cons (.rows Ei16 27) (.nil)))
abbrev qReG0 := Exa × Int × Unit
abbrev qReG1 := qReGt0 × (List Int) × (List Int) × Unit
abbrev qReG2 := (Int × Int × Int × (Nat × Nat) × (Nat × Nat) × (List Int) × Unit) × (List Int) × (List Int) × Unit × Unit
noncomputable def exNRes (R0 : exNZ → qReG0 → qReG1 → Prop) (R1 : exNZ → qReG0 → qReG2 → Prop) : List (Res exNZ) := [⟨Exa × Int × Unit, qReG1, .cons 0 (.aggW Ex) (.ji 1 (.nil)), .cons (.row (.ji 0 (.ji 1 (.ji 2 (.cons 3 (.slq 1 1) (.cons 4 (.slq 2 1) (.cons 5 (.nilS) (.nil)))))))) (.cons (.rows Eu64 89) (.cons (.rows Ei16 27) (.nil))), R0⟩, ⟨Exa × Int × Unit, qReG2, .cons 0 (.aggW Ex) (.ji 1 (.nil)), .cons (.row (.ji 0 (.ji 1 (.ji 2 (.cons 3 (.slq 1 1) (.cons 4 (.slq 2 1) (.cons 5 (.own Ei64 3) (.nil)))))))) (.cons (.rows Eu64 89) (.cons (.rows Ei16 27) (.cons (.spare) (.nil)))), R1⟩]
abbrev zexN (q : List Int) (l : List Cd) (k d r c : Int) (t a : Nat × Nat) (T A : List Int) : exNZ := ((q, l, (), k, ()), (d, r, c, t, a, (), ()), T, A, ())
theorem exNFn (q : List Int) (l : List Cd) (k d r c : Int) (t a : Nat × Nat) (T A : List Int) (R0 : exNZ → qReG0 → qReG1 → Prop) (R1 : exNZ → qReG0 → qReG2 → Prop) : (uA2 PP (runW PP (KLX [(31, chk2K), (29, mayK), (22, newYK), (39, wideK), (26, ordK), (28, tlistK)] [(9, [(8, exLC)])] [46, 89, 27] [] []) 200) 9 (exNT.cells id (q, l, (), k, ())) (stL true (exNBl.obs id ((d, r, c, t, a, (), ()), T, A, ()))) (fun v st => uA1 3 (zexN q l k d r c t a T A) v st (exNRes R0 R1))) = ( ∃ l_1, Wv Ei16 q l_1 ∧ true = true ∧ chk2Pre ((l_1, Int.ofNat q.length, ()), ()) ∧ (∀ c_1 d_1, chk2R0 ((l_1, Int.ofNat q.length, ()), ()) c_1 d_1 → ifp (!uAf 0 k) ((∃ (a_2 : Exa), WkL [AV.nilSlice, AV.nilSlice] (Ex.f a_2) ∧ ∃ l_2, Sa Eu64 T l_2 ∧ ∃ l_3, Sa Ei16 A l_3 ∧ true = true ∧ R0 (zexN q l k d r c t a T A) (a_2, 2, ()) ((d, r, c, t, a, (), ()), l_2, l_3, ())) ∨ ∃ (a : Exa), WkL [AV.nilSlice, AV.nilSlice] (Ex.f a) ∧ False) (ifp (!uAf k 16777216) ((∃ (a_2 : Exa), WkL [AV.nilSlice, AV.nilSlice] (Ex.f a_2) ∧ ∃ l_2, Sa Eu64 T l_2 ∧ ∃ l_3, Sa Ei16 A l_3 ∧ true = true ∧ R0 (zexN q l k d r c t a T A) (a_2, 2, ()) ((d, r, c, t, a, (), ()), l_2, l_3, ())) ∨ ∃ (a : Exa), WkL [AV.nilSlice, AV.nilSlice] (Ex.f a) ∧ False) (∃ l_2, Wv Ec l l_2 ∧ mayPre (l_2, ()) ∧ ifp (l_2.all mayC) (ifp (uA0 k 0) ((∃ (a_2 : Exa), WkL [AV.nilSlice, AV.nilSlice] (Ex.f a_2) ∧ ∃ l_3, Sa Eu64 T l_3 ∧ ∃ l_4, Sa Ei16 A l_4 ∧ true = true ∧ R0 (zexN q l k d r c t a T A) (a_2, 0, ()) ((d, r, c, t, a, (), ()), l_3, l_4, ())) ∨ ∃ (a : Exa), WkL [AV.nilSlice, AV.nilSlice] (Ex.f a) ∧ False) (true = true ∧ newYPre ((k, ()), ()) ∧ (∀ c_2 d_2, newYR0 ((k, ()), ()) c_2 d_2 → ∃ l_3, Wv Ei16 q l_3 ∧ widePre (l_3, ()) ∧ ∃ l_4, Wv Ec l l_4 ∧ ordPre (l_4, ()) ∧ uAs PP 9 95 (uAd PP 9 8).loop exLC ∧ True ∧ True ∧ ((∃ l, Wv Ec (ordC l_4) l ∧ False) ∨ (∃ l, Wv Ec (ordC l_4) l ∧ False) ∨ ∃ l_5, Wv Ec (ordC l_4) l_5 ∧ ∃ l_6, Sa Eu64 T l_6 ∧ ∃ l_7, Sa Ei16 A l_7 ∧ ∃ l_8, Wv Ei32 (uAv l_3) l_8 ∧ true = true ∧ exLInv (((), (), (), (), (), (), (), l_5, Int.ofNat (ordC l_4).length, 0, ()), (d, r, c, t, a, [], ()), l_6, l_7, (), ((), ()), (l_8, ()), (d_2.1.1, (0, 0), ()), [], ((), [], ()), (), ((), (), ()), ()) ∧ (∀ c_3 d_3, exLR0 (((), (), (), (), (), (), (), l_5, Int.ofNat (ordC l_4).length, 0, ()), (d, r, c, t, a, [], ()), l_6, l_7, (), ((), ()), (l_8, ()), (d_2.1.1, (0, 0), ()), [], ((), [], ()), (), ((), (), ()), ()) c_3 d_3 → (∃ l_9, Sa En d_3.2.2.2.2.2.1 l_9 ∧ true = true ∧ list1Pre (((), ()), (d_3.2.2.2.2.1.1, d_3.2.2.2.2.1.2.1, ()), l_9, ()) ∧ (∀ c_4 d_4, list1R0 (((), ()), (d_3.2.2.2.2.1.1, d_3.2.2.2.2.1.2.1, ()), l_9, ()) c_4 d_4 → (∃ (a : Exa), WkL [AV.vs (List.flatMap En.f c_4.1) c_4.1.length c_4.1.length false none 2, AV.vs (List.flatMap En.f d_3.2.2.2.2.2.2.1.2.1) d_3.2.2.2.2.2.2.1.2.1.length d_3.2.2.2.2.2.2.1.2.1.length false (some 12) 2] (Ex.f a) ∧ False) ∨ ∃ (a_5 : Exa), WkL [AV.vs (List.flatMap En.f c_4.1) c_4.1.length c_4.1.length false none 2, AV.vs (List.flatMap En.f d_3.2.2.2.2.2.2.1.2.1) d_3.2.2.2.2.2.2.1.2.1.length d_3.2.2.2.2.2.2.1.2.1.length false (some 12) 2] (Ex.f a_5) ∧ ∃ l_10, Ow Ei64 d_3.1.2.2.2.2.2.1 l_10 1 ∧ ∃ l_11, Sa Eu64 d_3.2.1 l_11 ∧ ∃ l_12, Sa Ei16 d_3.2.2.1 l_12 ∧ true = true ∧ R1 (zexN q l k d r c t a T A) (a_5, 0, ()) ((d_3.1.1, d_3.1.2.1, d_3.1.2.2.1, d_3.1.2.2.2.1, d_3.1.2.2.2.2.1, l_10, ()), l_11, l_12, (), ())) ∧ True) ∨ False) ∧ (∀ c_3 d_3, exLR1 (((), (), (), (), (), (), (), l_5, Int.ofNat (ordC l_4).length, 0, ()), (d, r, c, t, a, [], ()), l_6, l_7, (), ((), ()), (l_8, ()), (d_2.1.1, (0, 0), ()), [], ((), [], ()), (), ((), (), ()), ()) c_3 d_3 → False ∨ true = true ∧ list0Pre (((), ()), (d_3.2.2.2.2.1.1, (), ()), ()) ∧ (∀ c_4 d_4, list0R0 (((), ()), (d_3.2.2.2.2.1.1, (), ()), ()) c_4 d_4 → (∃ (a : Exa), WkL [AV.vs (List.flatMap En.f c_4.1) c_4.1.length c_4.1.length false none 2, AV.nilSlice] (Ex.f a) ∧ False) ∨ ∃ (a_5 : Exa), WkL [AV.vs (List.flatMap En.f c_4.1) c_4.1.length c_4.1.length false none 2, AV.nilSlice] (Ex.f a_5) ∧ ∃ l_9, Ow Ei64 d_3.1.2.2.2.2.2.1 l_9 1 ∧ ∃ l_10, Sa Eu64 d_3.2.1 l_10 ∧ ∃ l_11, Sa Ei16 d_3.2.2.1 l_11 ∧ true = true ∧ R1 (zexN q l k d r c t a T A) (a_5, 0, ()) ((d_3.1.1, d_3.1.2.1, d_3.1.2.2.1, d_3.1.2.2.2.1, d_3.1.2.2.2.2.1, l_9, ()), l_10, l_11, (), ())) ∧ True) ∧ (∀ c_3 d_3, exLR2 (((), (), (), (), (), (), (), l_5, Int.ofNat (ordC l_4).length, 0, ()), (d, r, c, t, a, [], ()), l_6, l_7, (), ((), ()), (l_8, ()), (d_2.1.1, (0, 0), ()), [], ((), [], ()), (), ((), (), ()), ()) c_3 d_3 → False ∨ true = true ∧ list0Pre (((), ()), (d_3.2.2.2.1.1, (), ()), ()) ∧ (∀ c_4 d_4, list0R0 (((), ()), (d_3.2.2.2.1.1, (), ()), ()) c_4 d_4 → (∃ (a_5 : Exa), WkL [AV.vs (List.flatMap En.f c_4.1) c_4.1.length c_4.1.length false none 2, AV.nilSlice] (Ex.f a_5) ∧ ∃ l_9, Sa Eu64 d_3.2.1 l_9 ∧ ∃ l_10, Sa Ei16 d_3.2.2.1 l_10 ∧ true = true ∧ R0 (zexN q l k d r c t a T A) (a_5, 0, ()) ((d_3.1.1, d_3.1.2.1, d_3.1.2.2.1, d_3.1.2.2.2.1, d_3.1.2.2.2.2.1, (), ()), l_9, l_10, ())) ∨ ∃ (a : Exa), WkL [AV.vs (List.flatMap En.f c_4.1) c_4.1.length c_4.1.length false none 2, AV.nilSlice] (Ex.f a) ∧ False) ∧ True) ∧ (∀ c_3 d_3, exLR3 (((), (), (), (), (), (), (), l_5, Int.ofNat (ordC l_4).length, 0, ()), (d, r, c, t, a, [], ()), l_6, l_7, (), ((), ()), (l_8, ()), (d_2.1.1, (0, 0), ()), [], ((), [], ()), (), ((), (), ()), ()) c_3 d_3 → (∃ (a : Exa), WkL [AV.nilSlice, AV.nilSlice] (Ex.f a) ∧ False) ∨ ∃ (a_4 : Exa), WkL [AV.nilSlice, AV.nilSlice] (Ex.f a_4) ∧ ∃ l_9, Ow Ei64 d_3.1.2.2.2.2.2.1 l_9 1 ∧ ∃ l_10, Sa Eu64 d_3.2.1 l_10 ∧ ∃ l_11, Sa Ei16 d_3.2.2.1 l_11 ∧ true = true ∧ R1 (zexN q l k d r c t a T A) (a_4, c_3.2.1, ()) ((d_3.1.1, d_3.1.2.1, d_3.1.2.2.1, d_3.1.2.2.2.1, d_3.1.2.2.2.2.1, l_9, ()), l_10, l_11, (), ())) ∧ (∀ (c_3 : Unit × Int × Unit) (d_3 : qReGt0 × List Int × List Int × (Unit × Unit × Unit) × Unit), (d_3.1.1 = d ∧ d_3.1.2.1 = r ∧ d_3.1.2.2.1 = c ∧ d_3.1.2.2.2.1 = t ∧ d_3.1.2.2.2.2.1 = a ∧ d_3.2.1 = l_6 ∧ d_3.2.2.1 = l_7 ∧ c_3.2.1 ≠ 0 ∧ ∀ (V : List (List Int)) (L : List Near), SlOk d r c t a l_6 l_7 V → TopOk d_2.1.1 [] L → exF l_8 V d_2.1.1 l_5 L [] = (([], []), c_3.2.1)) → (∃ (a_4 : Exa), WkL [AV.nilSlice, AV.nilSlice] (Ex.f a_4) ∧ ∃ l_9, Sa Eu64 d_3.2.1 l_9 ∧ ∃ l_10, Sa Ei16 d_3.2.2.1 l_10 ∧ true = true ∧ R0 (zexN q l k d r c t a T A) (a_4, c_3.2.1, ()) ((d_3.1.1, d_3.1.2.1, d_3.1.2.2.1, d_3.1.2.2.2.1, d_3.1.2.2.2.2.1, (), ()), l_9, l_10, ())) ∨ ∃ (a : Exa), WkL [AV.nilSlice, AV.nilSlice] (Ex.f a) ∧ False) ∧ True)) ∧ True)) ((∃ (a_2 : Exa), WkL [AV.nilSlice, AV.nilSlice] (Ex.f a_2) ∧ ∃ l_3, Sa Eu64 T l_3 ∧ ∃ l_4, Sa Ei16 A l_4 ∧ true = true ∧ R0 (zexN q l k d r c t a T A) (a_2, 2, ()) ((d, r, c, t, a, (), ()), l_3, l_4, ())) ∨ ∃ (a : Exa), WkL [AV.nilSlice, AV.nilSlice] (Ex.f a) ∧ False)))) ∧ (∀ c_1 d_1, chk2R1 ((l_1, Int.ofNat q.length, ()), ()) c_1 d_1 → (∃ (a_2 : Exa), WkL [AV.nilSlice, AV.nilSlice] (Ex.f a_2) ∧ ∃ l_2, Sa Eu64 T l_2 ∧ ∃ l_3, Sa Ei16 A l_3 ∧ true = true ∧ R0 (zexN q l k d r c t a T A) (a_2, Int.ofNat 2, ()) ((d, r, c, t, a, (), ()), l_2, l_3, ())) ∨ ∃ (a : Exa), WkL [AV.nilSlice, AV.nilSlice] (Ex.f a) ∧ False) ∧ True) := by kernel_rfl
def exNPre : exNZ → Prop := fun ((q, l, (), k, ()), (d, r, c, t, a, (), ()), T, A, ()) => q.length ≤ 2000 ∧ l.length ≤ 60 ∧ (∀ u ∈ l, u.2.2.2.1 < 9223372036854775808) ∧ (∃ V, SlOk d r c t a T A V)
def exNR0 : exNZ → qReG0 → qReG1 → Prop := fun ((q, l, (), k, ()), (d, r, c, t, a, (), ()), T, A, ()) (y, e, _) ((d2, r2, c2, t2, a2, _), T2, A2, _) => d2 = d ∧ r2 = r ∧ c2 = c ∧ t2 = t ∧ a2 = a ∧ T2 = T ∧ A2 = A ∧ ∀ V, SlOk d r c t a T A V → ((y.1, y.2.1), e) = exV q l V k
def exNR1 : exNZ → qReG0 → qReG2 → Prop := fun ((q, l, (), k, ()), (d, r, c, t, a, (), ()), T, A, ()) (y, e, _) ((d2, r2, c2, t2, a2, x2, _), T2, A2, _) => d2 = d ∧ r2 = r ∧ c2 = c ∧ t2 = t ∧ a2 = a ∧ T2 = T ∧ A2 = A ∧ x2.length ≤ 60 ∧ ∀ V, SlOk d r c t a T A V → ((y.1, y.2.1), e) = exV q l V k
noncomputable def exNK : uA6 := uD4 3 exNT exNBl exNPre (exNRes exNR0 exNR1)
theorem exNStep (z : exNZ) (hp : exNPre z) : uA2 PP (runW PP (KLX [(31, chk2K), (29, mayK), (22, newYK), (39, wideK), (26, ordK), (28, tlistK)] [(9, [(8, exLC)])] [46, 89, 27] [] []) 200) 9 (exNT.cells id z.1) (stL true (exNBl.obs id z.2)) (fun v st => uA1 3 z v st (exNRes exNR0 exNR1)) := by
 obtain ⟨⟨q, l, _, k, _⟩, ⟨⟨d, r, c, t, a, _, _⟩, T, A, _⟩⟩ := z
 refine (exNFn q l k d r c t a T A _ _).mpr ?_
 obtain ⟨hq, hl, hs, hV0⟩ := hp
 have NO : ∀ e : Int, e = chkE q l k → (e ≠ 0 ∨ k = 0) → ∀ V, SlOk d r c t a T A V → ((([] : List Near), ([] : List Near)), e) = exV q l V k := fun e h1 h2 V _ => by rw [exV, if_pos (by rw [← h1]; exact h2), h1]
 refine ⟨q, Wk.refl _, rfl, trivial, fun c0 d0 h0 => ?_, fun c0 d0 h0 => ?_, trivial⟩
 case refine_2 =>
  have h0' : vchk q q.length = 2 := h0
  have hc2 : chkE q l k = 2 := by rw [chkE, h0']; rfl
  exact Or.inl ⟨(([] : List Near), ([] : List Near), ()), ⟨uBz En, uBz En, trivial⟩, T, rfl, A, rfl, rfl, rfl, rfl, rfl, rfl, rfl, rfl, rfl, NO _ (hc2.symm) (Or.inl (by decide))⟩
 case refine_1 =>
  have h0' : vchk q q.length = 0 := h0
  have hcE : chkE q l k = if k < 0 ∨ 16777216 < k ∨ l.all mayC = false then 2 else 0 := by rw [chkE, if_neg (by rw [h0']; simp)]
  rw [uAe]
  split
  ·rename_i h1
   have hc2 : chkE q l k = 2 := by rw [hcE, if_pos (Or.inl h1)]
   exact Or.inl ⟨(([] : List Near), ([] : List Near), ()), ⟨uBz En, uBz En, trivial⟩, T, rfl, A, rfl, rfl, rfl, rfl, rfl, rfl, rfl, rfl, rfl, NO _ (hc2.symm) (Or.inl (by decide))⟩
  ·rename_i h1
   rw [uAe]
   split
   ·rename_i h2
    have hc2 : chkE q l k = 2 := by rw [hcE, if_pos (Or.inr (Or.inl h2))]
    exact Or.inl ⟨(([] : List Near), ([] : List Near), ()), ⟨uBz En, uBz En, trivial⟩, T, rfl, A, rfl, rfl, rfl, rfl, rfl, rfl, rfl, rfl, rfl, NO _ (hc2.symm) (Or.inl (by decide))⟩
   ·rename_i h2
    refine ⟨l, Wk.refl _, by show l.length < _; omega, ?_⟩
    cases hm : l.all mayC with
    | false =>
     rw [uDn rfl]
     have hc2 : chkE q l k = 2 := by rw [hcE, if_pos (Or.inr (Or.inr hm))]
     exact Or.inl ⟨(([] : List Near), ([] : List Near), ()), ⟨uBz En, uBz En, trivial⟩, T, rfl, A, rfl, rfl, rfl, rfl, rfl, rfl, rfl, rfl, rfl, NO _ (hc2.symm) (Or.inl (by decide))⟩
    | true =>
     rw [uAj rfl, uCz]
     have hce : chkE q l k = 0 := by rw [hcE, if_neg (by rw [hm]; simp; omega)]
     split
     ·rename_i h3
      exact Or.inl ⟨(([] : List Near), ([] : List Near), ()), ⟨uBz En, uBz En, trivial⟩, T, rfl, A, rfl, rfl, rfl, rfl, rfl, rfl, rfl, rfl, rfl, NO _ (hce.symm) (Or.inr h3)⟩
     ·rename_i hk
      have k0 : 0 ≤ k := by omega
      have k1 : k ≤ 16777216 := by omega
      have EX : ∀ V, exV q l V k = exF (uAv q) V k (ordC l) [] [] := fun V => by rw [exV, if_neg (by rw [hce]; rintro (h9 | h9); exact h9 rfl; exact hk h9)]
      have hol := ordC_le l
      obtain ⟨V0, hV0⟩ := hV0
      refine ⟨rfl, ⟨k0, k1⟩, fun c1 d1 h1 => ?_, trivial⟩
      obtain ⟨⟨k1, _, _⟩, _⟩ := d1
      obtain rfl : k = k1 := Eq.symm h1
      have kp : 0 < k := by omega
      refine ⟨q, Wk.refl _, by show q.length ≤ 1000000; omega, l, Wk.refl _, by show l.length ≤ 1000000; omega, exLOk, trivial, trivial, ?_⟩
      refine Or.inr (Or.inr ⟨ordC l, Wk.refl _, T, rfl, A, rfl, uAv q, Wk.refl _, rfl, ⟨0, V0, [], rfl, rfl, Nat.zero_le _, by omega, fun u hu => hs u (ordC_mem hu), hV0, kp, rfl, TopOk.none (Int.le_of_lt kp), Nat.zero_le _, Nat.zero_le _, Nat.zero_le _⟩, fun cc dd hh => ?_, fun cc dd hh => ?_, fun cc dd hh => ?_, fun cc dd hh => ?_, fun cc dd hh => ?_, trivial⟩)
      ·skip
       obtain ⟨⟨d2, r2, c2, t2, a2, x2, _⟩, T2, A2, _, ⟨k2, h2, _⟩, m2, ⟨_, R2, _⟩, _⟩ := dd
       obtain ⟨g1, g2, g3, g4, g5, g6, g7, gx, gk, gh, gm, gE⟩ := hh
       obtain rfl : d = d2 := g1.symm
       obtain rfl : r = r2 := g2.symm
       obtain rfl : c = c2 := g3.symm
       obtain rfl : t = t2 := g4.symm
       obtain rfl : a = a2 := g5.symm
       obtain rfl : T = T2 := g6.symm
       obtain rfl : A = A2 := g7.symm
       have gx2 : x2.length + 0 ≤ 0 + (ordC l).length := gx
       refine Or.inl ⟨m2, rfl, rfl, ⟨gh, by show m2.length ≤ _; omega⟩, fun c3 d3 h3 => ?_, trivial⟩
       obtain ⟨o3, _⟩ := c3
       obtain ⟨⟨k3, h3', _⟩, m3, _⟩ := d3
       obtain ⟨ho, _⟩ := h3
       obtain rfl : o3 = uBq m2 := ho
       exact Or.inr ⟨(uBq m2, R2, ()), ⟨Wk.refl _, wk_of_own, trivial⟩, x2, ⟨WkL.refl _, rfl, rfl⟩, T, rfl, A, rfl, rfl, rfl, rfl, rfl, rfl, rfl, rfl, rfl, by show x2.length ≤ 60; omega, fun V hV => by
        obtain ⟨L2, y1, y2⟩ := gE V [] hV (TopOk.none (Int.le_of_lt kp))
        rw [EX]
        have y3 : exF (uAv q) V k (ordC l) [] [] = ((L2, R2), 0) := y2
        rw [y3, y1.list]⟩
      ·skip
       obtain ⟨⟨d2, r2, c2, t2, a2, x2, _⟩, T2, A2, _⟩ := dd
       obtain ⟨g1, g2, g3, g4, g5, g6, g7, gx, gE⟩ := hh
       obtain rfl : d = d2 := g1.symm
       obtain rfl : r = r2 := g2.symm
       obtain rfl : c = c2 := g3.symm
       obtain rfl : t = t2 := g4.symm
       obtain rfl : a = a2 := g5.symm
       obtain rfl : T = T2 := g6.symm
       obtain rfl : A = A2 := g7.symm
       have gx2 : x2.length + 0 ≤ 0 + (ordC l).length := gx
       refine Or.inr ⟨rfl, trivial, fun c3 d3 h3 => ?_, trivial⟩
       obtain ⟨o3, _⟩ := c3
       obtain ⟨⟨k3, _, _⟩, _⟩ := d3
       obtain ⟨ho, _⟩ := h3
       obtain rfl : o3 = [] := ho
       exact Or.inr ⟨(([] : List Near), ([] : List Near), ()), ⟨Wk.refl _, uBz En, trivial⟩, x2, ⟨WkL.refl _, rfl, rfl⟩, T, rfl, A, rfl, rfl, rfl, rfl, rfl, rfl, rfl, rfl, rfl, by show x2.length ≤ 60; omega, fun V hV => by rw [EX]; exact (gE V [] hV (TopOk.none (Int.le_of_lt kp))).symm⟩
      ·skip
       obtain ⟨⟨d2, r2, c2, t2, a2, _⟩, T2, A2, _⟩ := dd
       obtain ⟨g1, g2, g3, g4, g5, g6, g7, gE⟩ := hh
       obtain rfl : d = d2 := g1.symm
       obtain rfl : r = r2 := g2.symm
       obtain rfl : c = c2 := g3.symm
       obtain rfl : t = t2 := g4.symm
       obtain rfl : a = a2 := g5.symm
       obtain rfl : T = T2 := g6.symm
       obtain rfl : A = A2 := g7.symm
       refine Or.inr ⟨rfl, trivial, fun c3 d3 h3 => ?_, trivial⟩
       obtain ⟨o3, _⟩ := c3
       obtain ⟨⟨k3, _, _⟩, _⟩ := d3
       obtain ⟨ho, _⟩ := h3
       obtain rfl : o3 = [] := ho
       exact Or.inl ⟨(([] : List Near), ([] : List Near), ()), ⟨Wk.refl _, uBz En, trivial⟩, T, rfl, A, rfl, rfl, rfl, rfl, rfl, rfl, rfl, rfl, rfl, fun V hV => by rw [EX]; exact (gE V [] hV (TopOk.none (Int.le_of_lt kp))).symm⟩
      ·skip
       obtain ⟨_, e9, _⟩ := cc
       obtain ⟨⟨d2, r2, c2, t2, a2, x2, _⟩, T2, A2, _⟩ := dd
       obtain ⟨g1, g2, g3, g4, g5, g6, g7, gx, ge, gE⟩ := hh
       obtain rfl : d = d2 := g1.symm
       obtain rfl : r = r2 := g2.symm
       obtain rfl : c = c2 := g3.symm
       obtain rfl : t = t2 := g4.symm
       obtain rfl : a = a2 := g5.symm
       obtain rfl : T = T2 := g6.symm
       obtain rfl : A = A2 := g7.symm
       have gx2 : x2.length + 0 ≤ 0 + (ordC l).length := gx
       exact Or.inr ⟨(([] : List Near), ([] : List Near), ()), ⟨uBz En, uBz En, trivial⟩, x2, ⟨WkL.refl _, rfl, rfl⟩, T, rfl, A, rfl, rfl, rfl, rfl, rfl, rfl, rfl, rfl, rfl, by show x2.length ≤ 60; omega, fun V hV => by rw [EX]; exact (gE V [] hV (TopOk.none (Int.le_of_lt kp))).symm⟩
      ·skip
       obtain ⟨_, e9, _⟩ := cc
       obtain ⟨⟨d2, r2, c2, t2, a2, _⟩, T2, A2, _⟩ := dd
       obtain ⟨g1, g2, g3, g4, g5, g6, g7, ge, gE⟩ := hh
       obtain rfl : d = d2 := g1.symm
       obtain rfl : r = r2 := g2.symm
       obtain rfl : c = c2 := g3.symm
       obtain rfl : t = t2 := g4.symm
       obtain rfl : a = a2 := g5.symm
       obtain rfl : T = T2 := g6.symm
       obtain rfl : A = A2 := g7.symm
       exact Or.inl ⟨(([] : List Near), ([] : List Near), ()), ⟨uBz En, uBz En, trivial⟩, T, rfl, A, rfl, rfl, rfl, rfl, rfl, rfl, rfl, rfl, rfl, fun V hV => by rw [EX]; exact (gE V [] hV (TopOk.none (Int.le_of_lt kp))).symm⟩
theorem exNCc : CcOk PP 9 exNK := uB4 mixed (uDp (uAi chk2Cc (uAi mayCc (uAi newYCc (uAi wideCc (uAi ordCc (uAi tlistCc (uAq)))))))) rfl exNStep
end Go.Proofs.YteehkdejkemnmacDoor
