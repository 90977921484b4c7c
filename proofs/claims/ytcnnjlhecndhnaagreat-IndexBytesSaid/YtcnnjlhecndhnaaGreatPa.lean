/- Part of the proof of IndexBytes. -/
import Derived.Test.YtcnnjlhecndhnaaGreatRows
import Derived.Test.YtcnnjlhecndhnaaGreatDd
import Derived.ProofKit
set_option linter.unusedVariables false
set_option linter.unusedSimpArgs false
namespace Go.Proofs.YtcnnjlhecndhnaaGreat
open Go.Det Go.RowKit
noncomputable abbrev PP := Tryz.prog
set_option maxRecDepth 100000
theorem mixed : Tryz.prog.follows .mixedOrders = true := by kernel_rfl
abbrev Eu8 : Enc Int := Enc.int .u8
def uC7 (n m : Int) : Int := if m < 1 then 0 else n % m
theorem pick_eq {n m : Int} (h : 1 ≤ m) : n % m = if n.tmod m < 0 then n.tmod m + m else n.tmod m := by
 have e := Int.mul_tdiv_add_tmod n m
 have h1 : n.tmod m < m := Int.tmod_lt_of_pos n (by omega)
 have h2 : -m < n.tmod m := by
  have := Int.tmod_lt_of_pos (-n) (show 0 < m by omega)
  rw [Int.neg_tmod] at this; omega
 have e2 : n % m = (n.tmod m) % m := by
  conv => lhs; rw [← e, Int.add_comm, Int.add_mul_emod_self_left]
 rw [e2]
 split
 ·rename_i h3
  rw [← Int.add_emod_right, Int.emod_eq_of_lt (by omega) (by omega)]
 ·rename_i h3
  exact Int.emod_eq_of_lt (by omega) h1
noncomputable def uRx : Tel (Int × Int × Unit) := .ji 0 (.ji 1 (.nil))
theorem pickFn (n m : Int) (Q : AV → Prop) : (callW Tryz.prog (runW Tryz.prog (KL [] []) 200) 13 (uRx.cells id (n, m, ())) (stE false) (fun x st => frzW st x Q)) = ( ifp (!leInt 1 m) (Q (I64 0)) (m ≠ 0 ∧ ifp (!leInt 0 (n.tmod m)) (Q (I64 (wrapF .i64 ((n.tmod m).add m)))) (Q (I64 (n.tmod m))))) := by kernel_rfl
def uHn : Int × Int × Unit → Prop := fun (n, m, ()) => -9223372036854775808 ≤ n ∧ n < 9223372036854775808 ∧ m < 9223372036854775808
noncomputable def uMl : Int × Int × Unit → AV := fun (n, m, ()) => .int .i64 (uC7 n m)
noncomputable def uTn : CallC := valC uRx uHn uMl
theorem pickVal (n : Int) (m : Int) (hp : uHn (n, m, ())) : Val Tryz.prog 13 (uRx.cells id (n, m, ())) (uMl (n, m, ())) := by
 refine Val.ofF mixed (KL_ok (cc_nil)) (freesC rfl _) (pickFn n m) ?_
 obtain ⟨p1, p2, p3⟩ := hp
 rw [ifp_lt]
 split
 ·rename_i h
  exact tells_int (by rw [uC7, if_pos h])
 ·rename_i h
  refine ⟨by omega, ?_⟩
  rw [ifp_lt]
  have e := pick_eq (n := n) (m := m) (by omega)
  have h1 : Int.tmod n m < m := Int.tmod_lt_of_pos n (by omega)
  have h2 : -m < Int.tmod n m := by
   have := Int.tmod_lt_of_pos (-n) (show 0 < m by omega)
   rw [Int.neg_tmod] at this; omega
  split
  ·rename_i h3
   exact tells_int (by rw [uC7, if_neg h, e, if_pos h3]; exact wadd (by omega) (by omega))
  ·rename_i h3
   exact tells_int (by rw [uC7, if_neg h, e, if_neg h3])
theorem pickCc : CcOk Tryz.prog 13 uTn := val_ok rfl (fun ⟨n, ⟨m, _⟩⟩ h => pickVal n m h)
theorem pick_range {n m : Int} (h : 0 < m) : 0 ≤ uC7 n m ∧ uC7 n m < m := by
 rw [uC7, if_neg (by omega)]
 exact ⟨Int.emod_nonneg _ (by omega), Int.emod_lt_of_pos _ h⟩
end Go.Proofs.YtcnnjlhecndhnaaGreat
namespace Go.Proofs.YtcnnjlhecndhnaaGreat
open Go.Det Go.RowKit
set_option maxRecDepth 100000
abbrev Ei32 : Enc Int := Enc.int .i32
abbrev Ell : Enc (List Int) := Enc.list Ei32
def uA9 (x : Int) : Bool := decide (x < -131072) || decide (131072 < x)
def cw (v : List Int) : Int := if v.length < 1 ∨ 1024 < v.length then 2 else if v.any uA9 then 11 else 0
def uAk (c : List (List Int)) : Int :=
 if c.length < 1 ∨ 4096 < c.length then 2 else
 match c.find? (fun v => cw v ≠ 0) with
 | some v => cw v
 | none => if c.any (fun v => v.length ≠ (c.headD []).length) then 2 else 0
def uAn (l : List (List Int)) (m n : Int) : Bool := decide ((l.length : Int) ≤ m) && l.all fun v => decide ((v.length : Int) ≤ n)
abbrev uMj := (List (List Int)) × Int × Int × Unit
abbrev uBn := uMj × (Unit)
noncomputable def uHz : Tel uMj := .cons 0 (.lst Ell) (.ji 2 (.ji 7 (.nil)))
noncomputable def uH4 : BTel (Unit) := .nil
noncomputable def uH2 : List (LForm uBn) := [⟨_, _, uHz, uH4, fun x y => (x, y)⟩]
noncomputable def uDr (R0 : uBn → (Unit) → (Unit) → Prop) (R1 : uBn → (Bool × Unit) → (Unit) → Prop) : List (Alt uBn) := [⟨.exit 0, Unit, Unit, .nil, .nil, R0⟩, ⟨.ret, Bool × Unit, Unit, .cons 6 (.bool) (.nil), .nil, R1⟩]
theorem lightForm (l : List (List Int)) (n i : Int) (N : uBn → Prop) (R0 : uBn → (Unit) → (Unit) → Prop) (R1 : uBn → (Bool × Unit) → (Unit) → Prop) : ((runW PP (KL [] []) 100).code none 71 25 (loopBody PP 71 4) (mkT (uHz.av id (l, n, i, ()))) [] (stL false (uH4.obs id ())) (postL 0 uH2 (uDr R0 R1) ((l, n, i, ()), ()) N)) = ( ifp (!leInt (Int.ofNat l.length) i) (idxOk i l.length ∧ ∃ l' n_1 c x w e, nth ((natOf i).mul 1) (l.flatMap Ell.f) = some (AV.vs l' n_1 c x w e) ∧ ifp (!leInt (Int.ofNat n_1) n) (True ∧ true = true ∧ R1 ((l, n, i, ()), ()) (false, ()) ()) (True ∧ ∃ l_1, Wv Ell l l_1 ∧ true = true ∧ N ((l_1, n, wrapF .i64 (i.add 1), ()), ()))) (True ∧ true = true ∧ R0 ((l, n, i, ()), ()) () ())) := by kernel_rfl
def uFg : uBn → Prop := fun ((l, n, i, ()), ()) => ∃ k : Nat, i = k ∧ k ≤ l.length ∧ l.length < 9223372036854775807 ∧ (l.take k).all (fun v => decide ((v.length : Int) ≤ n)) = true
def uMy : uBn → Nat := fun ((l, n, i, ()), ()) => l.length - i.toNat
def uH1 : uBn → (Unit) → (Unit) → Prop := fun ((l, n, i, ()), ()) _ _ => l.all (fun v => decide ((v.length : Int) ≤ n)) = true
def uH0 : uBn → (Bool × Unit) → (Unit) → Prop := fun ((l, n, i, ()), ()) ⟨r, _⟩ _ => r = false ∧ l.all (fun v => decide ((v.length : Int) ≤ n)) = false
noncomputable def uMz : LoopC := loopC 0 uH2 (uDr uH1 uH0) uFg
theorem lightStep : stepsOk PP (KL [] []) 100 71 25 (loopBody PP 71 4) 0 false uH2 (uDr uH1 uH0) uFg uMy ⟨_, _, uHz, uH4, fun x y => (x, y)⟩ := by
 intro x y hz
 obtain ⟨l, n, i, _⟩ := x
 obtain _ := y
 refine (lightForm l n i _ _ _).mpr ?_
 obtain ⟨k, rfl, hk, hl, ht⟩ := hz
 rw [ifp_lt]
 simp only [natOf_nat]
 split
 ·rename_i h
  have hkl : k < l.length := by simpa using h
  repeat first | refine ⟨Nat.le_refl _, ?_⟩ | rw [ifp_pos (roomy_small (by simp only [Nat.add_eq]; omega) (by decide))] | refine ⟨trivial, ?_⟩ | refine ⟨(rfl : true = true), ?_⟩ | refine ⟨idx_ok (by omega), ?_⟩ | refine ⟨idx_ok0 (by omega), ?_⟩ | refine ⟨_, nth_int (by omega), ?_⟩ | refine ⟨_, _, _, _, _, _, nth_lst (by omega), ?_⟩ | refine ⟨_, _, _, _, _, _, nth_lst0 (by omega), ?_⟩ | refine ⟨_, Wk.refl _, ?_⟩ | rw [ifp_pos rfl]
  rw [ifp_lt]
  split
  ·rename_i h2
   repeat first | refine ⟨Nat.le_refl _, ?_⟩ | rw [ifp_pos (roomy_small (by simp only [Nat.add_eq]; omega) (by decide))] | refine ⟨trivial, ?_⟩ | refine ⟨(rfl : true = true), ?_⟩ | refine ⟨idx_ok (by omega), ?_⟩ | refine ⟨idx_ok0 (by omega), ?_⟩ | refine ⟨_, nth_int (by omega), ?_⟩ | refine ⟨_, _, _, _, _, _, nth_lst (by omega), ?_⟩ | refine ⟨_, _, _, _, _, _, nth_lst0 (by omega), ?_⟩ | refine ⟨_, Wk.refl _, ?_⟩ | rw [ifp_pos rfl]
   exact ⟨rfl, all_of_get hkl (decide_eq_false (by simp at h2; omega))⟩
  ·rename_i h2
   repeat first | refine ⟨Nat.le_refl _, ?_⟩ | rw [ifp_pos (roomy_small (by simp only [Nat.add_eq]; omega) (by decide))] | refine ⟨trivial, ?_⟩ | refine ⟨(rfl : true = true), ?_⟩ | refine ⟨idx_ok (by omega), ?_⟩ | refine ⟨idx_ok0 (by omega), ?_⟩ | refine ⟨_, nth_int (by omega), ?_⟩ | refine ⟨_, _, _, _, _, _, nth_lst (by omega), ?_⟩ | refine ⟨_, _, _, _, _, _, nth_lst0 (by omega), ?_⟩ | refine ⟨_, Wk.refl _, ?_⟩ | rw [ifp_pos rfl]
   rw [wsucc (by omega)]
   refine ⟨⟨k + 1, rfl, hkl, hl, ?_⟩, ?_, fun _ _ h => h, fun _ _ h => h, trivial⟩
   ·rw [all_take_succ hkl, ht]; simp at h2 ⊢; omega
   ·show l.length - (k + 1) < l.length - k; omega
 ·rename_i h
  repeat first | refine ⟨Nat.le_refl _, ?_⟩ | rw [ifp_pos (roomy_small (by simp only [Nat.add_eq]; omega) (by decide))] | refine ⟨trivial, ?_⟩ | refine ⟨(rfl : true = true), ?_⟩ | refine ⟨idx_ok (by omega), ?_⟩ | refine ⟨idx_ok0 (by omega), ?_⟩ | refine ⟨_, nth_int (by omega), ?_⟩ | refine ⟨_, _, _, _, _, _, nth_lst (by omega), ?_⟩ | refine ⟨_, _, _, _, _, _, nth_lst0 (by omega), ?_⟩ | refine ⟨_, Wk.refl _, ?_⟩ | rw [ifp_pos rfl]
  rw [take_all (by simpa using h)] at ht; exact ht
theorem lightOk : LoopOk PP 71 25 (.loop (loopBody PP 71 4)) (uMz) := loop_ok uMy  mixed (KL_ok (cc_nil)) rfl (steps_cons lightStep (steps_nil))
noncomputable def uMx : Tel uMj := .cons 0 (.lst Ell) (.ji 1 (.ji 2 (.nil)))
theorem lightFn (l : List (List Int)) (m n : Int) (Q : AV → Prop) : (callW PP (runW PP (KL [] [(71, [(4, uMz)])]) 200) 71 (uMx.cells id (l, m, n, ())) (stE false) (fun x st => frzW st x Q)) = ( ifp (!leInt (Int.ofNat l.length) m) (Q (AV.bool false)) (LoopOk PP 71 25 (loopBody PP 71 4).loop uMz ∧ True ∧ True ∧ ∃ l_1, Wv Ell l l_1 ∧ true = true ∧ uFg ((l_1, n, 0, ()), ()) ∧ (∀ (c d : Unit), uH1 ((l_1, n, 0, ()), ()) c d → Q (AV.bool true)) ∧ (∀ c d, uH0 ((l_1, n, 0, ()), ()) c d → Q (AV.bool c.1)) ∧ True)) := by kernel_rfl
def uDa : (List (List Int)) × Int × Int × Unit → Prop := fun (l, m, n, ()) => m < 9223372036854775807
noncomputable def uK4 : (List (List Int)) × Int × Int × Unit → AV := fun (l, m, n, ()) => .bool (uAn l m n)
noncomputable def uG4 : CallC := valC uMx uDa uK4
theorem lightVal (l : List (List Int)) (m : Int) (n : Int) (hp : uDa (l, m, n, ())) : Val PP 71 (uMx.cells id (l, m, n, ())) (uK4 (l, m, n, ())) := by
 refine Val.ofF mixed (KL_ok (cc_nil)) (freesC rfl _) (lightFn l m n) ?_
 have hp0 : m < 9223372036854775807 := hp
 rw [ifp_lt]
 split
 ·rename_i h
  exact tells_bool (by simp at h; simp [uAn]; omega)
 ·rename_i h
  refine ⟨lightOk, ?_⟩
  have hp' : l.length < 9223372036854775807 := by simp only [Int.not_lt, Int.ofNat_eq_natCast] at h; omega
  repeat first | refine ⟨Nat.le_refl _, ?_⟩ | rw [ifp_pos (roomy_small (by simp only [Nat.add_eq]; omega) (by decide))] | refine ⟨trivial, ?_⟩ | refine ⟨(rfl : true = true), ?_⟩ | refine ⟨idx_ok (by omega), ?_⟩ | refine ⟨idx_ok0 (by omega), ?_⟩ | refine ⟨_, nth_int (by omega), ?_⟩ | refine ⟨_, _, _, _, _, _, nth_lst (by omega), ?_⟩ | refine ⟨_, _, _, _, _, _, nth_lst0 (by omega), ?_⟩ | refine ⟨_, Wk.refl _, ?_⟩ | rw [ifp_pos rfl]
  refine ⟨⟨0, rfl, by omega, hp', by simp⟩, fun _ _ hr => ?_, fun c _ hr => ?_, trivial⟩
  ·exact tells_bool (by simp at h; have hr' : l.all (fun v => decide ((v.length : Int) ≤ n)) = true := hr; simp only [uAn, hr']; simp; omega)
  ·obtain ⟨r, _⟩ := c
   obtain ⟨rfl, hr'⟩ := hr
   exact tells_bool (by simp only [uAn, hr', Bool.and_false])
theorem uH3 : CcOk PP 71 uG4 := val_ok rfl (fun ⟨l, ⟨m, ⟨n, _⟩⟩⟩ h => lightVal l m n h)
abbrev uDv := ((List Int) × Unit × Int × Int × Unit) × (Unit)
noncomputable def uM5 : Tel ((List Int) × Unit × Int × Int × Unit) := .cons 0 (.lst Ei32) (.cons 1 (.fnp 232 []) (.ji 7 (.ji 8 (.nil))))
noncomputable def uM9 : BTel (Unit) := .nil
noncomputable def uM8 : List (LForm uDv) := [⟨_, _, uM5, uM9, fun x y => (x, y)⟩]
abbrev uCe := Int × Unit
noncomputable def uFk (R0 : uDv → (Unit) → (Unit) → Prop) (R1 : uDv → uCe → (Unit) → Prop) : List (Alt uDv) := [⟨.exit 0, Unit, Unit, .nil, .nil, R0⟩, ⟨.ret, Int × Unit, Unit, .ji 4 (.nil), .nil, R1⟩]
theorem idxwForm (l : List Int) (n i : Int) (N : uDv → Prop) (R0 : uDv → (Unit) → (Unit) → Prop) (R1 : uDv → uCe → (Unit) → Prop) : ((runW PP (KL [] []) 100).code none 247 19 (loopBody PP 247 2) (mkT (uM5.av id (l, (), n, i, ()))) [] (stL false (uM9.obs id ())) (postL 0 uM8 (uFk R0 R1) ((l, (), n, i, ()), ()) N)) = ( ifp (!leInt n i) (idxOk i l.length ∧ ∃ x : Int, nth ((natOf i).mul 1) (l.flatMap Ei32.f) = some (AV.int .i32 x) ∧ ifp (!leInt (-131072) x) (True ∧ true = true ∧ R1 ((l, (), n, i, ()), ()) (i, ()) ()) (ifp (!leInt x 131072) (True ∧ true = true ∧ R1 ((l, (), n, i, ()), ()) (i, ()) ()) (True ∧ ∃ l_1, Wv Ei32 l l_1 ∧ true = true ∧ N ((l_1, (), n, wrapF .i64 (i.add 1), ()), ())))) (True ∧ true = true ∧ R0 ((l, (), n, i, ()), ()) () ())) := by kernel_rfl
def uH7 : uDv → Prop := fun ((l, (), n, i, ()), ()) => ∃ k : Nat, i = k ∧ n = l.length ∧ k ≤ l.length ∧ l.length < 9223372036854775807 ∧ (l.take k).any uA9 = false
def uQs : uDv → Nat := fun ((l, (), n, i, ()), ()) => l.length - i.toNat
def uM7 : uDv → (Unit) → (Unit) → Prop := fun ((l, (), n, i, ()), ()) _ _ => l.any uA9 = false
def uM6 : uDv → uCe → (Unit) → Prop := fun ((l, (), n, i, ()), ()) (r, _) _ => 0 ≤ r ∧ l.any uA9 = true
noncomputable def uSe : LoopC := loopC 0 uM8 (uFk uM7 uM6) uH7
theorem idxwStep : stepsOk PP (KL [] []) 100 247 19 (loopBody PP 247 2) 0 false uM8 (uFk uM7 uM6) uH7 uQs ⟨_, _, uM5, uM9, fun x y => (x, y)⟩ := by
 intro x y hz
 obtain ⟨l, _, n, i, _⟩ := x
 obtain _ := y
 refine (idxwForm l n i _ _ _).mpr ?_
 obtain ⟨k, rfl, rfl, hk, hl, ht⟩ := hz
 rw [ifp_lt]
 simp only [natOf_nat]
 split
 ·rename_i h
  have hkl : k < l.length := by simpa using h
  repeat first | refine ⟨Nat.le_refl _, ?_⟩ | rw [ifp_pos (roomy_small (by simp only [Nat.add_eq]; omega) (by decide))] | refine ⟨trivial, ?_⟩ | refine ⟨(rfl : true = true), ?_⟩ | refine ⟨idx_ok (by omega), ?_⟩ | refine ⟨idx_ok0 (by omega), ?_⟩ | refine ⟨_, nth_int (by omega), ?_⟩ | refine ⟨_, _, _, _, _, _, nth_lst (by omega), ?_⟩ | refine ⟨_, _, _, _, _, _, nth_lst0 (by omega), ?_⟩ | refine ⟨_, Wk.refl _, ?_⟩ | rw [ifp_pos rfl]
  rw [ifp_lt]
  split
  ·rename_i h2
   repeat first | refine ⟨Nat.le_refl _, ?_⟩ | rw [ifp_pos (roomy_small (by simp only [Nat.add_eq]; omega) (by decide))] | refine ⟨trivial, ?_⟩ | refine ⟨(rfl : true = true), ?_⟩ | refine ⟨idx_ok (by omega), ?_⟩ | refine ⟨idx_ok0 (by omega), ?_⟩ | refine ⟨_, nth_int (by omega), ?_⟩ | refine ⟨_, _, _, _, _, _, nth_lst (by omega), ?_⟩ | refine ⟨_, _, _, _, _, _, nth_lst0 (by omega), ?_⟩ | refine ⟨_, Wk.refl _, ?_⟩ | rw [ifp_pos rfl]
   exact ⟨by omega, any_of_get hkl (by simp [uA9, h2])⟩
  ·rename_i h2
   rw [ifp_lt]
   split
   ·rename_i h3
    repeat first | refine ⟨Nat.le_refl _, ?_⟩ | rw [ifp_pos (roomy_small (by simp only [Nat.add_eq]; omega) (by decide))] | refine ⟨trivial, ?_⟩ | refine ⟨(rfl : true = true), ?_⟩ | refine ⟨idx_ok (by omega), ?_⟩ | refine ⟨idx_ok0 (by omega), ?_⟩ | refine ⟨_, nth_int (by omega), ?_⟩ | refine ⟨_, _, _, _, _, _, nth_lst (by omega), ?_⟩ | refine ⟨_, _, _, _, _, _, nth_lst0 (by omega), ?_⟩ | refine ⟨_, Wk.refl _, ?_⟩ | rw [ifp_pos rfl]
    exact ⟨by omega, any_of_get hkl (by simp [uA9, h3])⟩
   ·rename_i h3
    repeat first | refine ⟨Nat.le_refl _, ?_⟩ | rw [ifp_pos (roomy_small (by simp only [Nat.add_eq]; omega) (by decide))] | refine ⟨trivial, ?_⟩ | refine ⟨(rfl : true = true), ?_⟩ | refine ⟨idx_ok (by omega), ?_⟩ | refine ⟨idx_ok0 (by omega), ?_⟩ | refine ⟨_, nth_int (by omega), ?_⟩ | refine ⟨_, _, _, _, _, _, nth_lst (by omega), ?_⟩ | refine ⟨_, _, _, _, _, _, nth_lst0 (by omega), ?_⟩ | refine ⟨_, Wk.refl _, ?_⟩ | rw [ifp_pos rfl]
    rw [wsucc (by omega)]
    refine ⟨⟨k + 1, rfl, rfl, hkl, hl, ?_⟩, ?_, fun _ _ h => h, fun _ _ h => h, trivial⟩
    ·rw [any_take_succ hkl, ht]; simp [uA9]; omega
    ·show l.length - (k + 1) < l.length - k; omega
 ·rename_i h
  repeat first | refine ⟨Nat.le_refl _, ?_⟩ | rw [ifp_pos (roomy_small (by simp only [Nat.add_eq]; omega) (by decide))] | refine ⟨trivial, ?_⟩ | refine ⟨(rfl : true = true), ?_⟩ | refine ⟨idx_ok (by omega), ?_⟩ | refine ⟨idx_ok0 (by omega), ?_⟩ | refine ⟨_, nth_int (by omega), ?_⟩ | refine ⟨_, _, _, _, _, _, nth_lst (by omega), ?_⟩ | refine ⟨_, _, _, _, _, _, nth_lst0 (by omega), ?_⟩ | refine ⟨_, Wk.refl _, ?_⟩ | rw [ifp_pos rfl]
  rw [take_all (by simpa using h)] at ht; exact ht
theorem idxwOk : LoopOk PP 247 19 (.loop (loopBody PP 247 2)) (uSe) := loop_ok uQs  mixed (KL_ok (cc_nil)) rfl (steps_cons idxwStep (steps_nil))
noncomputable def cwT : Tel ((List Int) × Unit) := .cons 0 (.lst Ei32) (.nil)
theorem cwFn (v : List Int) (Q : AV → Prop) : (callW PP (runW PP (KL [] [(247, [(2, uSe)])]) 200) 177 (cwT.cells id (v, ())) (stE false) (fun x st => frzW st x Q)) = ( ifp (!leInt 1 (Int.ofNat v.length)) (Q (I64 2)) (ifp (!leInt (Int.ofNat v.length) 1024) (Q (I64 2)) (LoopOk PP 247 19 (loopBody PP 247 2).loop uSe ∧ True ∧ True ∧ ∃ l, Wv Ei32 v l ∧ true = true ∧ uH7 ((l, (), Int.ofNat v.length, 0, ()), ()) ∧ (∀ (c d : Unit), uM7 ((l, (), Int.ofNat v.length, 0, ()), ()) c d → Q (I64 0)) ∧ (∀ c d, uM6 ((l, (), Int.ofNat v.length, 0, ()), ()) c d → ifp (leInt 0 c.1) (Q (I64 11)) (Q (I64 0))) ∧ True))) := by kernel_rfl
def uP7 : (List Int) × Unit → Prop := fun (v, ()) => True
noncomputable def uTv : (List Int) × Unit → AV := fun (v, ()) => .int .i64 (cw v)
noncomputable def cwK : CallC := valC cwT uP7 uTv
theorem cwVal (v : List Int) (hp : uP7 (v, ())) : Val PP 177 (cwT.cells id (v, ())) (uTv (v, ())) := by
 refine Val.ofF mixed (KL_ok (cc_nil)) (freesC rfl _) (cwFn v) ?_
 rw [ifp_lt, ifp_lt]
 split
 ·rename_i h
  exact tells_int (by rw [cw, if_pos (by simp at h; omega)])
 ·rename_i h
  split
  ·rename_i h2
   exact tells_int (by rw [cw, if_pos (by simp at h2; omega)])
  ·rename_i h2
   simp at h h2
   have hc : ¬ (v.length < 1 ∨ 1024 < v.length) := by omega
   refine ⟨idxwOk, ?_⟩
   repeat first | refine ⟨Nat.le_refl _, ?_⟩ | rw [ifp_pos (roomy_small (by simp only [Nat.add_eq]; omega) (by decide))] | refine ⟨trivial, ?_⟩ | refine ⟨(rfl : true = true), ?_⟩ | refine ⟨idx_ok (by omega), ?_⟩ | refine ⟨idx_ok0 (by omega), ?_⟩ | refine ⟨_, nth_int (by omega), ?_⟩ | refine ⟨_, _, _, _, _, _, nth_lst (by omega), ?_⟩ | refine ⟨_, _, _, _, _, _, nth_lst0 (by omega), ?_⟩ | refine ⟨_, Wk.refl _, ?_⟩ | rw [ifp_pos rfl]
   refine ⟨⟨0, rfl, rfl, by omega, by omega, by simp⟩, fun _ _ hr => ?_, fun c _ hr => ?_, trivial⟩
   ·have hr' : v.any uA9 = false := hr
    exact tells_int (by rw [cw, if_neg hc, hr', if_neg (by simp)])
   ·obtain ⟨r, _⟩ := c
    obtain ⟨h0, hr'⟩ := hr
    rw [ifp_le, if_pos h0]
    exact tells_int (by rw [cw, if_neg hc, if_pos hr'])
theorem cwCc : CcOk PP 177 cwK := val_ok rfl (fun ⟨v, _⟩ h => cwVal v h)
def wide (l : List Int) : Prop := ∀ x ∈ l, -131072 ≤ x ∧ x ≤ 131072
theorem wide_of_any {l : List Int} (h : l.any uA9 = false) : wide l := fun x hx => by
 have := List.any_eq_false.1 h x hx
 simp [uA9] at this; omega
theorem uCt {v : List Int} (h : cw v = 0) : 1 ≤ v.length ∧ v.length ≤ 1024 ∧ wide v := by
 unfold cw at h
 split at h
 ·cases h
 ·split at h
  ·cases h
  ·rename_i h1 h2; exact ⟨by omega, by omega, wide_of_any (by simpa using h2)⟩
theorem uFr {c : List (List Int)} (h : 0 < c.length) : c[0] = c.headD [] := by cases c with | nil => simp at h | cons a l => rfl
abbrev uKx := (List (List Int)) × Unit
abbrev uDx := ((List (List Int)) × Unit × Int × Int × Unit) × (uKx × Unit)
noncomputable def uNf : Tel ((List (List Int)) × Unit × Int × Int × Unit) := .cons 0 (.lst Ell) (.cons 1 (.fnp 206 [0]) (.ji 7 (.ji 8 (.nil))))
noncomputable abbrev uEu := Bk.row (.cons 0 (.lst Ell) (.nil))
noncomputable def uNj : BTel (uKx × Unit) := .cons uEu (.nil)
noncomputable def uNi : List (LForm uDx) := [⟨_, _, uNf, uNj, fun x y => (x, y)⟩]
abbrev uBh := uKx × Unit
noncomputable def uFm (R0 : uDx → (Unit) → uBh → Prop) (R1 : uDx → uCe → uBh → Prop) : List (Alt uDx) := [⟨.exit 0, Unit, uBh, .nil, .cons uEu (.nil), R0⟩, ⟨.ret, Int × Unit, uBh, .ji 4 (.nil), .cons uEu (.nil), R1⟩]
theorem idxcForm (l : List (List Int)) (n i : Int) (c : List (List Int)) (N : uDx → Prop) (R0 : uDx → (Unit) → uBh → Prop) (R1 : uDx → uCe → uBh → Prop) : ((runW PP (KL [] []) 100).code none 209 19 (loopBody PP 209 2) (mkT (uNf.av id (l, (), n, i, ()))) [] (stL false (uNj.obs id ((c, ()), ()))) (postL 1 uNi (uFm R0 R1) ((l, (), n, i, ()), (c, ()), ()) N)) = ( ifp (!leInt n i) (idxOk i l.length ∧ ∃ l' n_1 c_1 x w e, nth ((natOf i).mul 1) (l.flatMap Ell.f) = some (AV.vs l' n_1 c_1 x w e) ∧ idxOk 0 c.length ∧ ∃ l' n_2 c_2 x w e, nth 0 (c.flatMap Ell.f) = some (AV.vs l' n_2 c_2 x w e) ∧ ifp (!eqInt (Int.ofNat n_1) (Int.ofNat n_2)) (True ∧ ∃ l_1, Wv Ell c l_1 ∧ true = true ∧ R1 ((l, (), n, i, ()), (c, ()), ()) (i, ()) ((l_1, ()), ())) (True ∧ ∃ l_1, Wv Ell l l_1 ∧ ∃ l, Wv Ell c l ∧ true = true ∧ N ((l_1, (), n, wrapF .i64 (i.add 1), ()), (l, ()), ()))) (True ∧ ∃ l_1, Wv Ell c l_1 ∧ true = true ∧ R0 ((l, (), n, i, ()), (c, ()), ()) () ((l_1, ()), ()))) := by kernel_rfl
def uH9 : uDx → Prop := fun ((l, (), n, i, ()), (c, ()), ()) => ∃ k : Nat, i = k ∧ n = l.length ∧ k ≤ l.length ∧ l.length ≤ 4096 ∧ 0 < c.length ∧ (l.take k).any (fun v => decide (v.length ≠ (c.headD []).length)) = false
def uQu : uDx → Nat := fun ((l, (), n, i, ()), (c, ()), ()) => l.length - i.toNat
def uNh : uDx → (Unit) → uBh → Prop := fun ((l, (), n, i, ()), (c, ()), ()) _ ((c2, _), _) => c2 = c ∧ l.any (fun v => decide (v.length ≠ (c.headD []).length)) = false
def uNg : uDx → uCe → uBh → Prop := fun ((l, (), n, i, ()), (c, ()), ()) (r, _) ((c2, _), _) => c2 = c ∧ 0 ≤ r ∧ l.any (fun v => decide (v.length ≠ (c.headD []).length)) = true
noncomputable def uSg : LoopC := loopC 1 uNi (uFm uNh uNg) uH9
theorem idxcStep : stepsOk PP (KL [] []) 100 209 19 (loopBody PP 209 2) 1 false uNi (uFm uNh uNg) uH9 uQu ⟨_, _, uNf, uNj, fun x y => (x, y)⟩ := by
 intro x y hz
 obtain ⟨l, _, n, i, _⟩ := x
 obtain ⟨⟨c, _⟩, _⟩ := y
 refine (idxcForm l n i c _ _ _).mpr ?_
 obtain ⟨k, rfl, rfl, hk, hl, hc, ht⟩ := hz
 rw [ifp_lt]
 simp only [natOf_nat]
 split
 ·rename_i h
  have hkl : k < l.length := by simpa using h
  repeat first | refine ⟨Nat.le_refl _, ?_⟩ | rw [ifp_pos (roomy_small (by simp only [Nat.add_eq]; omega) (by decide))] | refine ⟨trivial, ?_⟩ | refine ⟨(rfl : true = true), ?_⟩ | refine ⟨idx_ok (by omega), ?_⟩ | refine ⟨idx_ok0 (by omega), ?_⟩ | refine ⟨_, nth_int (by omega), ?_⟩ | refine ⟨_, _, _, _, _, _, nth_lst (by omega), ?_⟩ | refine ⟨_, _, _, _, _, _, nth_lst0 (by omega), ?_⟩ | refine ⟨_, Wk.refl _, ?_⟩ | rw [ifp_pos rfl]
  rw [ifp_ne]
  split
  ·rename_i h2
   repeat first | refine ⟨Nat.le_refl _, ?_⟩ | rw [ifp_pos (roomy_small (by simp only [Nat.add_eq]; omega) (by decide))] | refine ⟨trivial, ?_⟩ | refine ⟨(rfl : true = true), ?_⟩ | refine ⟨idx_ok (by omega), ?_⟩ | refine ⟨idx_ok0 (by omega), ?_⟩ | refine ⟨_, nth_int (by omega), ?_⟩ | refine ⟨_, _, _, _, _, _, nth_lst (by omega), ?_⟩ | refine ⟨_, _, _, _, _, _, nth_lst0 (by omega), ?_⟩ | refine ⟨_, Wk.refl _, ?_⟩ | rw [ifp_pos rfl]
   rw [wsucc (by omega)]
   refine ⟨⟨k + 1, rfl, rfl, hkl, hl, hc, ?_⟩, ?_, fun _ _ h => h, fun _ _ h => h, trivial⟩
   ·rw [any_take_succ hkl, ht, ← uFr hc]; simp; simp at h2; omega
   ·show l.length - (k + 1) < l.length - k; omega
  ·rename_i h2
   repeat first | refine ⟨Nat.le_refl _, ?_⟩ | rw [ifp_pos (roomy_small (by simp only [Nat.add_eq]; omega) (by decide))] | refine ⟨trivial, ?_⟩ | refine ⟨(rfl : true = true), ?_⟩ | refine ⟨idx_ok (by omega), ?_⟩ | refine ⟨idx_ok0 (by omega), ?_⟩ | refine ⟨_, nth_int (by omega), ?_⟩ | refine ⟨_, _, _, _, _, _, nth_lst (by omega), ?_⟩ | refine ⟨_, _, _, _, _, _, nth_lst0 (by omega), ?_⟩ | refine ⟨_, Wk.refl _, ?_⟩ | rw [ifp_pos rfl]
   exact ⟨rfl, by omega, any_of_get hkl (by rw [← uFr hc]; simp; simp at h2; omega)⟩
 ·rename_i h
  repeat first | refine ⟨Nat.le_refl _, ?_⟩ | rw [ifp_pos (roomy_small (by simp only [Nat.add_eq]; omega) (by decide))] | refine ⟨trivial, ?_⟩ | refine ⟨(rfl : true = true), ?_⟩ | refine ⟨idx_ok (by omega), ?_⟩ | refine ⟨idx_ok0 (by omega), ?_⟩ | refine ⟨_, nth_int (by omega), ?_⟩ | refine ⟨_, _, _, _, _, _, nth_lst (by omega), ?_⟩ | refine ⟨_, _, _, _, _, _, nth_lst0 (by omega), ?_⟩ | refine ⟨_, Wk.refl _, ?_⟩ | rw [ifp_pos rfl]
  rw [take_all (by simpa using h)] at ht; exact ⟨rfl, ht⟩
theorem idxcOk : LoopOk PP 209 19 (.loop (loopBody PP 209 2)) (uSg) := loop_ok uQu  mixed (KL_ok (cc_nil)) rfl (steps_cons idxcStep (steps_nil))
abbrev uBq := (Unit × (List (List Int)) × Int × Int × Unit) × uBh
noncomputable def uIm : Tel (Unit × (List (List Int)) × Int × Int × Unit) := .cons 1 (.ptr 0) (.cons 14 (.lst Ell) (.ji 15 (.ji 16 (.nil))))
noncomputable def uIr : BTel uBh := .cons uEu (.nil)
noncomputable def uIp : List (LForm uBq) := [⟨_, _, uIm, uIr, fun x y => (x, y)⟩]
noncomputable def uD8 (R0 : uBq → (Unit × Unit) → uBh → Prop) (R1 : uBq → uCe → uBh → Prop) : List (Alt uBq) := [⟨.exit 0, Unit × Unit, uBh, .cons 1 (.ptr 0) (.nil), .cons uEu (.nil), R0⟩, ⟨.ret, Int × Unit, uBh, .ji 2 (.nil), .cons uEu (.nil), R1⟩]
theorem checkForm (l : List (List Int)) (n i : Int) (c : List (List Int)) (N : uBq → Prop) (R0 : uBq → (Unit × Unit) → uBh → Prop) (R1 : uBq → uCe → uBh → Prop) : ((runW PP (KL [(177, cwK)] []) 100).code none 137 29 (loopBody PP 137 4) (mkT (uIm.av id ((), l, n, i, ()))) [] (stL false (uIr.obs id ((c, ()), ()))) (postL 1 uIp (uD8 R0 R1) (((), l, n, i, ()), (c, ()), ()) N)) = ( ifp (!leInt n i) (idxOk i l.length ∧ ∃ l' n_1 c_1 x w e, nth ((natOf i).mul 1) (l.flatMap Ell.f) = some (AV.vs l' n_1 c_1 x w e) ∧ ∃ (l_1 : List Int), Wk (AV.vs l' n_1 c_1 x w e) (lst Ei32 l_1) ∧ uP7 (l_1, ()) ∧ ifp (!eqInt (cw l_1) 0) (True ∧ ∃ l_2, Wv Ell c l_2 ∧ true = true ∧ R1 (((), l, n, i, ()), (c, ()), ()) (cw l_1, ()) ((l_2, ()), ())) (True ∧ ∃ l_2, Wv Ell l l_2 ∧ ∃ l, Wv Ell c l ∧ true = true ∧ N (((), l_2, n, wrapF .i64 (i.add 1), ()), (l, ()), ()))) (True ∧ ∃ l_1, Wv Ell c l_1 ∧ true = true ∧ R0 (((), l, n, i, ()), (c, ()), ()) ((), ()) ((l_1, ()), ()))) := by kernel_rfl
def checkInv : uBq → Prop := fun (((), l, n, i, ()), (c, ()), ()) => ∃ k : Nat, i = k ∧ n = l.length ∧ k ≤ l.length ∧ l.length ≤ 4096 ∧ (l.take k).all (fun v => decide (cw v = 0)) = true
def uOo : uBq → Nat := fun (((), l, n, i, ()), (c, ()), ()) => l.length - i.toNat
def uIo : uBq → (Unit × Unit) → uBh → Prop := fun (((), l, n, i, ()), (c, ()), ()) _ ((c2, _), _) => c2 = c ∧ l.all (fun v => decide (cw v = 0)) = true
def uIn : uBq → uCe → uBh → Prop := fun (((), l, n, i, ()), (c, ()), ()) (r, _) ((c2, _), _) => c2 = c ∧ ∃ k : Nat, ∃ h : k < l.length, (l.take k).all (fun v => decide (cw v = 0)) = true ∧ r = cw l[k] ∧ r ≠ 0
noncomputable def uOp : LoopC := loopC 1 uIp (uD8 uIo uIn) checkInv
theorem checkStep : stepsOk PP (KL [(177, cwK)] []) 100 137 29 (loopBody PP 137 4) 1 false uIp (uD8 uIo uIn) checkInv uOo ⟨_, _, uIm, uIr, fun x y => (x, y)⟩ := by
 intro x y hz
 obtain ⟨_, l, n, i, _⟩ := x
 obtain ⟨⟨c, _⟩, _⟩ := y
 refine (checkForm l n i c _ _ _).mpr ?_
 obtain ⟨k, rfl, rfl, hk, hl, ht⟩ := hz
 rw [ifp_lt]
 simp only [natOf_nat]
 split
 ·rename_i h
  have hkl : k < l.length := by simpa using h
  repeat first | refine ⟨Nat.le_refl _, ?_⟩ | rw [ifp_pos (roomy_small (by simp only [Nat.add_eq]; omega) (by decide))] | refine ⟨trivial, ?_⟩ | refine ⟨(rfl : true = true), ?_⟩ | refine ⟨idx_ok (by omega), ?_⟩ | refine ⟨idx_ok0 (by omega), ?_⟩ | refine ⟨_, nth_int (by omega), ?_⟩ | refine ⟨_, _, _, _, _, _, nth_lst (by omega), ?_⟩ | refine ⟨_, _, _, _, _, _, nth_lst0 (by omega), ?_⟩ | refine ⟨_, Wk.refl _, ?_⟩ | rw [ifp_pos rfl]
  rw [ifp_ne]
  split
  ·rename_i h2
   repeat first | refine ⟨Nat.le_refl _, ?_⟩ | rw [ifp_pos (roomy_small (by simp only [Nat.add_eq]; omega) (by decide))] | refine ⟨trivial, ?_⟩ | refine ⟨(rfl : true = true), ?_⟩ | refine ⟨idx_ok (by omega), ?_⟩ | refine ⟨idx_ok0 (by omega), ?_⟩ | refine ⟨_, nth_int (by omega), ?_⟩ | refine ⟨_, _, _, _, _, _, nth_lst (by omega), ?_⟩ | refine ⟨_, _, _, _, _, _, nth_lst0 (by omega), ?_⟩ | refine ⟨_, Wk.refl _, ?_⟩ | rw [ifp_pos rfl]
   rw [wsucc (by omega)]
   refine ⟨⟨k + 1, rfl, rfl, hkl, hl, ?_⟩, ?_, fun _ _ h => h, fun _ _ h => h, trivial⟩
   ·rw [all_take_succ hkl, ht, h2]; rfl
   ·show l.length - (k + 1) < l.length - k; omega
  ·rename_i h2
   repeat first | refine ⟨Nat.le_refl _, ?_⟩ | rw [ifp_pos (roomy_small (by simp only [Nat.add_eq]; omega) (by decide))] | refine ⟨trivial, ?_⟩ | refine ⟨(rfl : true = true), ?_⟩ | refine ⟨idx_ok (by omega), ?_⟩ | refine ⟨idx_ok0 (by omega), ?_⟩ | refine ⟨_, nth_int (by omega), ?_⟩ | refine ⟨_, _, _, _, _, _, nth_lst (by omega), ?_⟩ | refine ⟨_, _, _, _, _, _, nth_lst0 (by omega), ?_⟩ | refine ⟨_, Wk.refl _, ?_⟩ | rw [ifp_pos rfl]
   exact ⟨rfl, k, hkl, ht, rfl, h2⟩
 ·rename_i h
  repeat first | refine ⟨Nat.le_refl _, ?_⟩ | rw [ifp_pos (roomy_small (by simp only [Nat.add_eq]; omega) (by decide))] | refine ⟨trivial, ?_⟩ | refine ⟨(rfl : true = true), ?_⟩ | refine ⟨idx_ok (by omega), ?_⟩ | refine ⟨idx_ok0 (by omega), ?_⟩ | refine ⟨_, nth_int (by omega), ?_⟩ | refine ⟨_, _, _, _, _, _, nth_lst (by omega), ?_⟩ | refine ⟨_, _, _, _, _, _, nth_lst0 (by omega), ?_⟩ | refine ⟨_, Wk.refl _, ?_⟩ | rw [ifp_pos rfl]
  rw [take_all (by simpa using h)] at ht; exact ⟨rfl, ht⟩
theorem checkOk : LoopOk PP 137 29 (.loop (loopBody PP 137 4)) (uOp) := loop_ok uOo  mixed (KL_ok (cc_cons cwCc (cc_nil))) rfl (steps_cons checkStep (steps_nil))
theorem uD7 {c : List (List Int)} (h : ¬ (c.length < 1 ∨ 4096 < c.length)) (ha : c.all (fun v => decide (cw v = 0)) = true) : uAk c = if c.any (fun v => decide (v.length ≠ (c.headD []).length)) then 2 else 0 := by
 have : c.find? (fun v => decide (cw v ≠ 0)) = none := by
  rw [List.find?_eq_none]; intro x hx; have := List.all_eq_true.1 ha x hx; simpa using this
 rw [uAk, if_neg h, this]
theorem checkV_first {c : List (List Int)} (h : ¬ (c.length < 1 ∨ 4096 < c.length)) {k : Nat} (hk : k < c.length) (ha : (c.take k).all (fun v => decide (cw v = 0)) = true) (hn : cw c[k] ≠ 0) : uAk c = cw c[k] := by
 have : c.find? (fun v => decide (cw v ≠ 0)) = some c[k] := by
  rw [List.find?_eq_some_iff_getElem]
  refine ⟨by simpa using hn, k, hk, rfl, fun j hj => ?_⟩
  have hm : c[j] ∈ c.take k := by rw [List.mem_take_iff_getElem]; exact ⟨j, by omega, rfl⟩
  have := List.all_eq_true.1 ha _ hm
  simpa using this
 rw [uAk, if_neg h, this]
theorem uA3 {c : List (List Int)} (h : uAk c = 0) : 1 ≤ c.length ∧ c.length ≤ 4096 ∧ (∀ x ∈ c, cw x = 0) ∧ ∀ x ∈ c, x.length = (c.headD []).length := by
 unfold uAk at h
 split at h
 ·cases h
 ·split at h
  ·rename_i v hv
   have := List.find?_some hv
   simp at this; exact absurd h this
  ·rename_i hv
   split at h
   ·cases h
   ·rename_i h1 h2
    refine ⟨by omega, by omega, fun x hx => ?_, fun x hx => ?_⟩
    ·have := (List.find?_eq_none.1 hv) x hx; simpa using this
    ·rw [Bool.not_eq_true] at h2; have := List.any_eq_false.1 h2 x hx; simpa using this
noncomputable def uOn : Tel uKx := .cons 0 (.lst Ell) (.nil)
theorem checkFn (c : List (List Int)) (Q : AV → Prop) : (callW PP (runW PP (KL [(177, cwK)] [(137, [(4, uOp)]), (209, [(2, uSg)])]) 200) 137 (uOn.cells id (c, ())) (stE false) (fun x st => frzW st x Q)) = ( ifp (!leInt 1 (Int.ofNat c.length)) (Q (I64 2)) (ifp (!leInt (Int.ofNat c.length) 4096) (Q (I64 2)) (LoopOk PP 137 29 (loopBody PP 137 4).loop uOp ∧ True ∧ True ∧ ∃ l, Wv Ell c l ∧ ∃ l_1, Wv Ell c l_1 ∧ true = true ∧ checkInv (((), l, Int.ofNat c.length, 0, ()), (l_1, ()), ()) ∧ (∀ c_1 d, uIo (((), l, Int.ofNat c.length, 0, ()), (l_1, ()), ()) c_1 d → LoopOk PP 209 19 (loopBody PP 209 2).loop uSg ∧ True ∧ True ∧ ∃ l, Wv Ell d.1.1 l ∧ ∃ l_2, Wv Ell d.1.1 l_2 ∧ true = true ∧ uH9 ((l, (), Int.ofNat d.1.1.length, 0, ()), (l_2, ()), ()) ∧ (∀ c d_1, uNh ((l, (), Int.ofNat d.1.1.length, 0, ()), (l_2, ()), ()) c d_1 → Q (I64 0)) ∧ (∀ c d_1, uNg ((l, (), Int.ofNat d.1.1.length, 0, ()), (l_2, ()), ()) c d_1 → ifp (leInt 0 c.1) (Q (I64 2)) (Q (I64 0))) ∧ True) ∧ (∀ c_1 d, uIn (((), l, Int.ofNat c.length, 0, ()), (l_1, ()), ()) c_1 d → Q (I64 c_1.1)) ∧ True))) := by kernel_rfl
def uA5 : (List (List Int)) × Unit → Prop := fun (c, ()) => True
noncomputable def uLa : (List (List Int)) × Unit → AV := fun (c, ()) => .int .i64 (uAk c)
noncomputable def uLb : CallC := valC uOn uA5 uLa
theorem checkVal (c : List (List Int)) (hp : uA5 (c, ())) : Val PP 137 (uOn.cells id (c, ())) (uLa (c, ())) := by
 refine Val.ofF mixed (KL_ok (cc_cons cwCc (cc_nil))) (freesC rfl _) (checkFn c) ?_
 rw [ifp_lt, ifp_lt]
 split
 ·rename_i h
  exact tells_int (by rw [uAk, if_pos (Or.inl (by simp at h; omega))])
 ·rename_i h
  split
  ·rename_i h2
   exact tells_int (by rw [uAk, if_pos (by simp at h2; omega)])
  ·rename_i h2
   simp at h2
   have h1 : 0 < c.length := by simp only [Int.not_lt, Int.ofNat_eq_natCast] at h; omega
   have hc : ¬ (c.length < 1 ∨ 4096 < c.length) := by omega
   refine ⟨checkOk, ?_⟩
   repeat first | refine ⟨Nat.le_refl _, ?_⟩ | rw [ifp_pos (roomy_small (by simp only [Nat.add_eq]; omega) (by decide))] | refine ⟨trivial, ?_⟩ | refine ⟨(rfl : true = true), ?_⟩ | refine ⟨idx_ok (by omega), ?_⟩ | refine ⟨idx_ok0 (by omega), ?_⟩ | refine ⟨_, nth_int (by omega), ?_⟩ | refine ⟨_, _, _, _, _, _, nth_lst (by omega), ?_⟩ | refine ⟨_, _, _, _, _, _, nth_lst0 (by omega), ?_⟩ | refine ⟨_, Wk.refl _, ?_⟩ | rw [ifp_pos rfl]
   refine ⟨⟨0, rfl, rfl, by omega, by omega, by simp⟩, fun _ d hr => ?_, fun r d hr => ?_, trivial⟩
   ·obtain ⟨⟨c2, _⟩, _⟩ := d
    obtain ⟨rfl, hr'⟩ := hr
    refine ⟨idxcOk, ?_⟩
    dsimp only
    repeat first | refine ⟨Nat.le_refl _, ?_⟩ | rw [ifp_pos (roomy_small (by simp only [Nat.add_eq]; omega) (by decide))] | refine ⟨trivial, ?_⟩ | refine ⟨(rfl : true = true), ?_⟩ | refine ⟨idx_ok (by omega), ?_⟩ | refine ⟨idx_ok0 (by omega), ?_⟩ | refine ⟨_, nth_int (by omega), ?_⟩ | refine ⟨_, _, _, _, _, _, nth_lst (by omega), ?_⟩ | refine ⟨_, _, _, _, _, _, nth_lst0 (by omega), ?_⟩ | refine ⟨_, Wk.refl _, ?_⟩ | rw [ifp_pos rfl]
    refine ⟨⟨0, rfl, rfl, by omega, by omega, by omega, by simp⟩, fun _ d hr => ?_, fun r d hr => ?_, trivial⟩
    ·obtain ⟨⟨c3, _⟩, _⟩ := d
     obtain ⟨_, hr2⟩ := hr
     exact tells_int (by rw [uD7 hc hr']; rw [if_neg (by simpa using hr2)])
    ·obtain ⟨⟨c3, _⟩, _⟩ := d
     obtain ⟨r, _⟩ := r
     obtain ⟨_, h0, hr2⟩ := hr
     rw [ifp_le, if_pos h0]
     exact tells_int (by rw [uD7 hc hr']; rw [if_pos (by simpa using hr2)])
   ·obtain ⟨⟨c2, _⟩, _⟩ := d
    obtain ⟨r, _⟩ := r
    obtain ⟨_, k, hk, ha, hr', hn⟩ := hr
    exact tells_int (by show r = _; rw [hr', checkV_first hc hk ha (by rw [← hr']; exact hn)])
theorem uIq : CcOk PP 137 uLb := val_ok rfl (fun ⟨c, _⟩ h => checkVal c h)
end Go.Proofs.YtcnnjlhecndhnaaGreat
namespace Go.Proofs.YtcnnjlhecndhnaaGreat
open Go.Det Go.RowKit
set_option maxRecDepth 100000
abbrev uA4 := ((List Int) × (List Int) × Int × Unit) × (Unit)
noncomputable def uE3 : Tel ((List Int) × (List Int) × Int × Unit) := .cons 0 (.lst Ei32) (.cons 1 (.lst Ei32) (.ji 5 (.nil)))
noncomputable def uE8 : BTel (Unit) := .nil
noncomputable def uE7 : List (LForm uA4) := [⟨_, _, uE3, uE8, fun x y => (x, y)⟩]
noncomputable def uCo (R0 : uA4 → (Unit) → (Unit) → Prop) (R1 : uA4 → (Bool × Unit) → (Unit) → Prop) : List (Alt uA4) := [⟨.exit 0, Unit, Unit, .nil, .nil, R0⟩, ⟨.ret, Bool × Unit, Unit, .cons 4 (.bool) (.nil), .nil, R1⟩]
noncomputable abbrev uBk := KL [] []
theorem same32Form (a b : List Int) (i : Int) (N : uA4 → Prop) (R0 : uA4 → (Unit) → (Unit) → Prop) (R1 : uA4 → (Bool × Unit) → (Unit) → Prop) : ((runW PP uBk 100).code none 36 26 (loopBody PP 36 4) (mkT (uE3.av id (a, b, i, ()))) [] (stL false (uE8.obs id ())) (postL 0 uE7 (uCo R0 R1) ((a, b, i, ()), ()) N)) = ( ifp (!leInt (Int.ofNat a.length) i) (idxOk i a.length ∧ ∃ x : Int, nth ((natOf i).mul 1) (a.flatMap Ei32.f) = some (AV.int .i32 x) ∧ idxOk i b.length ∧ ∃ x_1 : Int, nth ((natOf i).mul 1) (b.flatMap Ei32.f) = some (AV.int .i32 x_1) ∧ ifp (!eqInt x x_1) (T3 <| true = true ∧ R1 ((a, b, i, ()), ()) (false, ()) ()) (T3 <| ∃ l, Wv Ei32 a l ∧ ∃ l_1, Wv Ei32 b l_1 ∧ true = true ∧ N ((l, l_1, wrapF .i64 (i.add 1), ()), ()))) (True ∧ true = true ∧ R0 ((a, b, i, ()), ()) () ())) := by kernel_rfl
def uDk : uA4 → Prop := fun ((a, b, i, ()), ()) => ∃ k : Nat, i = k ∧ k ≤ a.length ∧ a.length < 9223372036854775807 ∧ a.length = b.length ∧ a.take k = b.take k
def uKb : uA4 → Nat := fun ((a, b, i, ()), ()) => a.length - i.toNat
def uE5 : uA4 → (Unit) → (Unit) → Prop := fun ((a, b, i, ()), ()) _ _ => a = b
def uE4 : uA4 → (Bool × Unit) → (Unit) → Prop := fun ((a, b, i, ()), ()) (r, _) _ => r = false ∧ a ≠ b
noncomputable def uHj : LoopC := loopC 0 uE7 (uCo uE5 uE4) uDk
theorem same32Step : stepsOk PP uBk 100 36 26 (loopBody PP 36 4) 0 false uE7 (uCo uE5 uE4) uDk uKb ⟨_, _, uE3, uE8, fun x y => (x, y)⟩ := by
 intro x y hz
 obtain ⟨a, b, i, _⟩ := x
 obtain _ := y
 refine (same32Form a b i _ _ _).mpr ?_
 obtain ⟨k, rfl, hk, hl, hab, ht⟩ := hz
 rw [ifp_lt]
 simp only [natOf_nat]
 split
 ·rename_i h
  have hka : k < a.length := by simpa using h
  have hkb : k < b.length := by omega
  repeat first | refine ⟨Nat.le_refl _, ?_⟩ | rw [ifp_pos (roomy_small (by simp only [Nat.add_eq]; omega) (by decide))] | refine ⟨trivial, ?_⟩ | refine ⟨(rfl : true = true), ?_⟩ | refine ⟨idx_ok (by omega), ?_⟩ | refine ⟨idx_ok0 (by omega), ?_⟩ | refine ⟨_, nth_int (by omega), ?_⟩ | refine ⟨_, _, _, _, _, _, nth_lst (by omega), ?_⟩ | refine ⟨_, _, _, _, _, _, nth_lst0 (by omega), ?_⟩ | refine ⟨_, Wk.refl _, ?_⟩ | rw [ifp_pos rfl]
  rw [ifp_ne]
  split
  ·rename_i h2
   repeat first | refine ⟨Nat.le_refl _, ?_⟩ | rw [ifp_pos (roomy_small (by simp only [Nat.add_eq]; omega) (by decide))] | refine ⟨trivial, ?_⟩ | refine ⟨(rfl : true = true), ?_⟩ | refine ⟨idx_ok (by omega), ?_⟩ | refine ⟨idx_ok0 (by omega), ?_⟩ | refine ⟨_, nth_int (by omega), ?_⟩ | refine ⟨_, _, _, _, _, _, nth_lst (by omega), ?_⟩ | refine ⟨_, _, _, _, _, _, nth_lst0 (by omega), ?_⟩ | refine ⟨_, Wk.refl _, ?_⟩ | rw [ifp_pos rfl]
   rw [wsucc (by omega)]
   refine ⟨⟨k + 1, rfl, hka, hl, hab, ?_⟩, by show a.length - (k + 1) < a.length - k; omega, fun _ _ h => h, fun _ _ h => h, trivial⟩
   rw [← List.take_append_getElem hka, ← List.take_append_getElem hkb, ht, h2]
  ·rename_i h2
   repeat first | refine ⟨Nat.le_refl _, ?_⟩ | rw [ifp_pos (roomy_small (by simp only [Nat.add_eq]; omega) (by decide))] | refine ⟨trivial, ?_⟩ | refine ⟨(rfl : true = true), ?_⟩ | refine ⟨idx_ok (by omega), ?_⟩ | refine ⟨idx_ok0 (by omega), ?_⟩ | refine ⟨_, nth_int (by omega), ?_⟩ | refine ⟨_, _, _, _, _, _, nth_lst (by omega), ?_⟩ | refine ⟨_, _, _, _, _, _, nth_lst0 (by omega), ?_⟩ | refine ⟨_, Wk.refl _, ?_⟩ | rw [ifp_pos rfl]
   exact ⟨rfl, fun e => h2 (by subst e; rfl)⟩
 ·rename_i h
  repeat first | refine ⟨Nat.le_refl _, ?_⟩ | rw [ifp_pos (roomy_small (by simp only [Nat.add_eq]; omega) (by decide))] | refine ⟨trivial, ?_⟩ | refine ⟨(rfl : true = true), ?_⟩ | refine ⟨idx_ok (by omega), ?_⟩ | refine ⟨idx_ok0 (by omega), ?_⟩ | refine ⟨_, nth_int (by omega), ?_⟩ | refine ⟨_, _, _, _, _, _, nth_lst (by omega), ?_⟩ | refine ⟨_, _, _, _, _, _, nth_lst0 (by omega), ?_⟩ | refine ⟨_, Wk.refl _, ?_⟩ | rw [ifp_pos rfl]
  rw [take_all (by simpa using h), take_all (by rw [← hab]; simpa using h)] at ht; exact ht
theorem same32Ok : LoopOk PP 36 26 (.loop (loopBody PP 36 4)) (uHj) := loop_ok uKb  mixed (KL_ok (cc_nil)) rfl (steps_cons same32Step (steps_nil))
noncomputable def uHi : Tel ((List Int) × (List Int) × Unit) := .cons 0 (.lst Ei32) (.cons 1 (.lst Ei32) (.nil))
theorem same32Fn (a b : List Int) (Q : AV → Prop) : (callW PP (runW PP (KL [] [(36, [(4, uHj)])]) 200) 36 (uHi.cells id (a, b, ())) (stE false) (fun x st => frzW st x Q)) = ( ifp (!eqInt (Int.ofNat a.length) (Int.ofNat b.length)) (Q (AV.bool false)) (LoopOk PP 36 26 (loopBody PP 36 4).loop uHj ∧ True ∧ True ∧ ∃ l, Wv Ei32 a l ∧ ∃ l_1, Wv Ei32 b l_1 ∧ true = true ∧ uDk ((l, l_1, 0, ()), ()) ∧ (∀ (c d : Unit), uE5 ((l, l_1, 0, ()), ()) c d → Q (AV.bool true)) ∧ (∀ c d, uE4 ((l, l_1, 0, ()), ()) c d → Q (AV.bool c.1)) ∧ True)) := by kernel_rfl
def uDj : (List Int) × (List Int) × Unit → Prop := fun (a, b, ()) => a.length < 9223372036854775807
noncomputable def uGu : (List Int) × (List Int) × Unit → AV := fun (a, b, ()) => .bool (decide (a = b))
noncomputable def uE6 : CallC := valC uHi uDj uGu
theorem same32Val (a : List Int) (b : List Int) (hp : uDj (a, b, ())) : Val PP 36 (uHi.cells id (a, b, ())) (uGu (a, b, ())) := by
 refine Val.ofF mixed (KL_ok (cc_nil)) (freesC rfl _) (same32Fn a b) ?_
 have hp' : a.length < 9223372036854775807 := hp
 rw [ifp_ne]
 split
 ·rename_i h
  refine ⟨same32Ok, ?_⟩
  repeat first | refine ⟨Nat.le_refl _, ?_⟩ | rw [ifp_pos (roomy_small (by simp only [Nat.add_eq]; omega) (by decide))] | refine ⟨trivial, ?_⟩ | refine ⟨(rfl : true = true), ?_⟩ | refine ⟨idx_ok (by omega), ?_⟩ | refine ⟨idx_ok0 (by omega), ?_⟩ | refine ⟨_, nth_int (by omega), ?_⟩ | refine ⟨_, _, _, _, _, _, nth_lst (by omega), ?_⟩ | refine ⟨_, _, _, _, _, _, nth_lst0 (by omega), ?_⟩ | refine ⟨_, Wk.refl _, ?_⟩ | rw [ifp_pos rfl]
  refine ⟨⟨0, rfl, by omega, hp', by simp at h; omega, rfl⟩, fun _ _ hr => ?_, fun c _ hr => ?_, trivial⟩
  ·exact tells_bool (by rw [decide_eq_true (show a = b from hr)])
  ·obtain ⟨r, _⟩ := c
   obtain ⟨rfl, hr⟩ := hr
   exact tells_bool (by rw [decide_eq_false hr])
 ·rename_i h
  exact tells_bool (by rw [decide_eq_false]; intro e; subst e; exact h rfl)
theorem uKc : CcOk PP 36 uE6 := val_ok rfl (fun ⟨a, ⟨b, _⟩⟩ h => same32Val a b h)
abbrev uBm := ((List (List Int)) × (List (List Int)) × Int × Unit) × (Unit)
noncomputable def uHu : Tel ((List (List Int)) × (List (List Int)) × Int × Unit) := .cons 0 (.lst Ell) (.cons 1 (.lst Ell) (.ji 5 (.nil)))
noncomputable def uHy : BTel (Unit) := .nil
noncomputable def uHx : List (LForm uBm) := [⟨_, _, uHu, uHy, fun x y => (x, y)⟩]
noncomputable def uDp (R0 : uBm → (Unit) → (Unit) → Prop) (R1 : uBm → (Bool × Unit) → (Unit) → Prop) : List (Alt uBm) := [⟨.exit 0, Unit, Unit, .nil, .nil, R0⟩, ⟨.ret, Bool × Unit, Unit, .cons 4 (.bool) (.nil), .nil, R1⟩]
theorem listsForm (a b : List (List Int)) (i : Int) (N : uBm → Prop) (R0 : uBm → (Unit) → (Unit) → Prop) (R1 : uBm → (Bool × Unit) → (Unit) → Prop) : ((runW PP (KL [(36, uE6)] []) 100).code none 112 27 (loopBody PP 112 4) (mkT (uHu.av id (a, b, i, ()))) [] (stL false (uHy.obs id ())) (postL 0 uHx (uDp R0 R1) ((a, b, i, ()), ()) N)) = ( ifp (!leInt (Int.ofNat a.length) i) (idxOk i a.length ∧ ∃ l' n c x w e, nth ((natOf i).mul 1) (a.flatMap Ell.f) = some (AV.vs l' n c x w e) ∧ idxOk i b.length ∧ ∃ (l'_1 : List AV), ∃ (n_1 : Nat), ∃ (c_1 : Nat), ∃ (x_1 : Bool), ∃ (w_1 : Option Nat), ∃ (e_1 : Nat), nth ((natOf i).mul 1) (b.flatMap Ell.f) = some (AV.vs l'_1 n_1 c_1 x_1 w_1 e_1) ∧ ∃ (l : List Int), Wk (AV.vs l' n c x w e) (lst Ei32 l) ∧ ∃ (l_1 : List Int), Wk (AV.vs l'_1 n_1 c_1 x_1 w_1 e_1) (lst Ei32 l_1) ∧ uDj (l, l_1, ()) ∧ ifp (decide (l = l_1)) (T3 <| ∃ l, Wv Ell a l ∧ ∃ l_2, Wv Ell b l_2 ∧ true = true ∧ N ((l, l_2, wrapF .i64 (i.add 1), ()), ())) (T3 <| true = true ∧ R1 ((a, b, i, ()), ()) (false, ()) ())) (True ∧ true = true ∧ R0 ((a, b, i, ()), ()) () ())) := by kernel_rfl
def uFe : uBm → Prop := fun ((a, b, i, ()), ()) => ∃ k : Nat, i = k ∧ k ≤ a.length ∧ a.length < 9223372036854775807 ∧ a.length = b.length ∧ (∀ x ∈ a, x.length < 9223372036854775807) ∧ a.take k = b.take k
def uMu : uBm → Nat := fun ((a, b, i, ()), ()) => a.length - i.toNat
def uHw : uBm → (Unit) → (Unit) → Prop := fun ((a, b, i, ()), ()) _ _ => a = b
def uHv : uBm → (Bool × Unit) → (Unit) → Prop := fun ((a, b, i, ()), ()) (r, _) _ => r = false ∧ a ≠ b
noncomputable def uMw : LoopC := loopC 0 uHx (uDp uHw uHv) uFe
theorem listsStep : stepsOk PP (KL [(36, uE6)] []) 100 112 27 (loopBody PP 112 4) 0 false uHx (uDp uHw uHv) uFe uMu ⟨_, _, uHu, uHy, fun x y => (x, y)⟩ := by
 intro x y hz
 obtain ⟨a, b, i, _⟩ := x
 obtain _ := y
 refine (listsForm a b i _ _ _).mpr ?_
 obtain ⟨k, rfl, hk, hl, hab, hx, ht⟩ := hz
 rw [ifp_lt]
 simp only [natOf_nat]
 split
 ·rename_i h
  have hka : k < a.length := by simpa using h
  have hkb : k < b.length := by omega
  repeat first | refine ⟨Nat.le_refl _, ?_⟩ | rw [ifp_pos (roomy_small (by simp only [Nat.add_eq]; omega) (by decide))] | refine ⟨trivial, ?_⟩ | refine ⟨(rfl : true = true), ?_⟩ | refine ⟨idx_ok (by omega), ?_⟩ | refine ⟨idx_ok0 (by omega), ?_⟩ | refine ⟨_, nth_int (by omega), ?_⟩ | refine ⟨_, _, _, _, _, _, nth_lst (by omega), ?_⟩ | refine ⟨_, _, _, _, _, _, nth_lst0 (by omega), ?_⟩ | refine ⟨_, Wk.refl _, ?_⟩ | rw [ifp_pos rfl]
  refine ⟨hx _ (List.getElem_mem hka), ?_⟩
  repeat first | refine ⟨Nat.le_refl _, ?_⟩ | rw [ifp_pos (roomy_small (by simp only [Nat.add_eq]; omega) (by decide))] | refine ⟨trivial, ?_⟩ | refine ⟨(rfl : true = true), ?_⟩ | refine ⟨idx_ok (by omega), ?_⟩ | refine ⟨idx_ok0 (by omega), ?_⟩ | refine ⟨_, nth_int (by omega), ?_⟩ | refine ⟨_, _, _, _, _, _, nth_lst (by omega), ?_⟩ | refine ⟨_, _, _, _, _, _, nth_lst0 (by omega), ?_⟩ | refine ⟨_, Wk.refl _, ?_⟩ | rw [ifp_pos rfl]
  rw [ifp_if]
  split
  ·rename_i h2
   repeat first | refine ⟨Nat.le_refl _, ?_⟩ | rw [ifp_pos (roomy_small (by simp only [Nat.add_eq]; omega) (by decide))] | refine ⟨trivial, ?_⟩ | refine ⟨(rfl : true = true), ?_⟩ | refine ⟨idx_ok (by omega), ?_⟩ | refine ⟨idx_ok0 (by omega), ?_⟩ | refine ⟨_, nth_int (by omega), ?_⟩ | refine ⟨_, _, _, _, _, _, nth_lst (by omega), ?_⟩ | refine ⟨_, _, _, _, _, _, nth_lst0 (by omega), ?_⟩ | refine ⟨_, Wk.refl _, ?_⟩ | rw [ifp_pos rfl]
   rw [wsucc (by omega)]
   refine ⟨⟨k + 1, rfl, hka, hl, hab, hx, ?_⟩, by show a.length - (k + 1) < a.length - k; omega, fun _ _ h => h, fun _ _ h => h, trivial⟩
   rw [← List.take_append_getElem hka, ← List.take_append_getElem hkb, ht, of_decide_eq_true h2]
  ·rename_i h2
   repeat first | refine ⟨Nat.le_refl _, ?_⟩ | rw [ifp_pos (roomy_small (by simp only [Nat.add_eq]; omega) (by decide))] | refine ⟨trivial, ?_⟩ | refine ⟨(rfl : true = true), ?_⟩ | refine ⟨idx_ok (by omega), ?_⟩ | refine ⟨idx_ok0 (by omega), ?_⟩ | refine ⟨_, nth_int (by omega), ?_⟩ | refine ⟨_, _, _, _, _, _, nth_lst (by omega), ?_⟩ | refine ⟨_, _, _, _, _, _, nth_lst0 (by omega), ?_⟩ | refine ⟨_, Wk.refl _, ?_⟩ | rw [ifp_pos rfl]
   exact ⟨rfl, fun e => h2 (by subst e; simp)⟩
 ·rename_i h
  repeat first | refine ⟨Nat.le_refl _, ?_⟩ | rw [ifp_pos (roomy_small (by simp only [Nat.add_eq]; omega) (by decide))] | refine ⟨trivial, ?_⟩ | refine ⟨(rfl : true = true), ?_⟩ | refine ⟨idx_ok (by omega), ?_⟩ | refine ⟨idx_ok0 (by omega), ?_⟩ | refine ⟨_, nth_int (by omega), ?_⟩ | refine ⟨_, _, _, _, _, _, nth_lst (by omega), ?_⟩ | refine ⟨_, _, _, _, _, _, nth_lst0 (by omega), ?_⟩ | refine ⟨_, Wk.refl _, ?_⟩ | rw [ifp_pos rfl]
  rw [take_all (by simpa using h), take_all (by rw [← hab]; simpa using h)] at ht; exact ht
theorem listsOk : LoopOk PP 112 27 (.loop (loopBody PP 112 4)) (uMw) := loop_ok uMu  mixed (KL_ok (cc_cons uKc (cc_nil))) rfl (steps_cons listsStep (steps_nil))
noncomputable def uMt : Tel ((List (List Int)) × (List (List Int)) × Unit) := .cons 0 (.lst Ell) (.cons 1 (.lst Ell) (.nil))
theorem listsFn (a b : List (List Int)) (Q : AV → Prop) : (callW PP (runW PP (KL [(36, uE6)] [(112, [(4, uMw)])]) 200) 112 (uMt.cells id (a, b, ())) (stE false) (fun x st => frzW st x Q)) = ( ifp (!eqInt (Int.ofNat a.length) (Int.ofNat b.length)) (Q (AV.bool false)) (LoopOk PP 112 27 (loopBody PP 112 4).loop uMw ∧ True ∧ True ∧ ∃ l, Wv Ell a l ∧ ∃ l_1, Wv Ell b l_1 ∧ true = true ∧ uFe ((l, l_1, 0, ()), ()) ∧ (∀ (c d : Unit), uHw ((l, l_1, 0, ()), ()) c d → Q (AV.bool true)) ∧ (∀ c d, uHv ((l, l_1, 0, ()), ()) c d → Q (AV.bool c.1)) ∧ True)) := by kernel_rfl
def uC9 : (List (List Int)) × (List (List Int)) × Unit → Prop := fun (a, b, ()) => a.length < 9223372036854775807 ∧ ∀ x ∈ a, x.length < 9223372036854775807
noncomputable def uK1 : (List (List Int)) × (List (List Int)) × Unit → AV := fun (a, b, ()) => .bool (decide (a = b))
noncomputable def uK2 : CallC := valC uMt uC9 uK1
theorem listsVal (a : List (List Int)) (b : List (List Int)) (hp : uC9 (a, b, ())) : Val PP 112 (uMt.cells id (a, b, ())) (uK1 (a, b, ())) := by
 refine Val.ofF mixed (KL_ok (cc_cons uKc (cc_nil))) (freesC rfl _) (listsFn a b) ?_
 obtain ⟨hp', hx⟩ := hp
 rw [ifp_ne]
 split
 ·rename_i h
  refine ⟨listsOk, ?_⟩
  repeat first | refine ⟨Nat.le_refl _, ?_⟩ | rw [ifp_pos (roomy_small (by simp only [Nat.add_eq]; omega) (by decide))] | refine ⟨trivial, ?_⟩ | refine ⟨(rfl : true = true), ?_⟩ | refine ⟨idx_ok (by omega), ?_⟩ | refine ⟨idx_ok0 (by omega), ?_⟩ | refine ⟨_, nth_int (by omega), ?_⟩ | refine ⟨_, _, _, _, _, _, nth_lst (by omega), ?_⟩ | refine ⟨_, _, _, _, _, _, nth_lst0 (by omega), ?_⟩ | refine ⟨_, Wk.refl _, ?_⟩ | rw [ifp_pos rfl]
  refine ⟨⟨0, rfl, by omega, hp', by simp at h; omega, hx, rfl⟩, fun _ _ hr => ?_, fun c _ hr => ?_, trivial⟩
  ·exact tells_bool (by rw [decide_eq_true (show a = b from hr)])
  ·obtain ⟨r, _⟩ := c
   obtain ⟨rfl, hr⟩ := hr
   exact tells_bool (by rw [decide_eq_false hr])
 ·rename_i h
  exact tells_bool (by rw [decide_eq_false]; intro e; subst e; exact h rfl)
theorem uMv : CcOk PP 112 uK2 := val_ok rfl (fun ⟨a, ⟨b, _⟩⟩ h => listsVal a b h)
def putV (n : Int) (w : Nat) : List Int := (List.range w).map fun i => (n / 256 ^ i) % 256
theorem uAr (n : Int) (w : Nat) : (putV n w).length = w := by simp [putV]
theorem putV_get {n : Int} {w k : Nat} (h : k < w) : (putV n w)[k]'(by rw [uAr]; exact h) = (n / 256 ^ k) % 256 := by simp [putV]
theorem shr_byte {n : Int} {k : Nat} (hn : 0 ≤ n) (hk : k ≤ 8) : wrapF .u8 (shrV .u64 n ((8 * k : Nat) : Int)) = (n / 256 ^ k) % 256 := by
 have e1 : shrV .u64 n ((8 * k : Nat) : Int) = n / 256 ^ k := by
  show Int.fdiv n (.ofNat (Nat.pow 2 (ifb (Nat.ble (8 * k) 64) (8 * k) 64))) = _
  rw [show Nat.ble (8 * k) 64 = true from ble_t (by omega), ifb_true]
  rw [show (Int.ofNat (Nat.pow 2 (8 * k))) = (256 : Int) ^ k by
   show ((2 ^ (8 * k) : Nat) : Int) = _
   rw [Nat.pow_mul]; norm_cast]
  exact Int.fdiv_eq_ediv_of_nonneg _ (Int.le_of_lt (Int.pow_pos (by decide)))
 rw [e1, wrapF_eq]; rfl
theorem mul8 {k : Nat} (hk : k ≤ 1000000) : wrapF .i64 (Int.mul 8 (k : Int)) = ((8 * k : Nat) : Int) := by
 rw [w64 (by show _ ≤ 8 * (k : Int); omega) (by show 8 * (k : Int) < _; omega)]; show 8 * (k : Int) = _; omega
theorem putV_drop {n : Int} {w k : Nat} (h : k < w) : (putV n w).drop k = (n / 256 ^ k) % 256 :: (putV n w).drop (k + 1) := by
 rw [drop_get (by rw [uAr]; exact h), putV_get h]
abbrev uAg := Unit × Unit
abbrev putZ := (Int × (List Int) × Int × Int × Unit) × uAg
noncomputable def uRt : Tel (Int × (List Int) × Int × Int × Unit) := .cons 1 (.int .u64) (.cons 7 (.own Eu8 0) (.ji 17 (.ji 18 (.nil))))
noncomputable def uRw : BTel uAg := .cons (.spare) (.nil)
noncomputable def uRv : List (LForm putZ) := [⟨_, _, uRt, uRw, fun x y => (x, y)⟩]
abbrev uAt := (List Int) × Unit
noncomputable def uHm (R0 : putZ → uAt → uAg → Prop) : List (Alt putZ) := [⟨.exit 0, uAt, Unit × Unit, .cons 7 (.own Eu8 0) (.nil), .cons (.spare) (.nil), R0⟩]
theorem putForm (n : Int) (out : List Int) (m i : Int) (N : putZ → Prop) (R0 : putZ → uAt → uAg → Prop) : ((runW PP uBk 100).code none 188 31 (loopBody PP 188 3) (mkT (uRt.av id (n, out, m, i, ()))) [] (stL true (uRw.obs id ((), ()))) (postL 0 uRv (uHm R0) ((n, out, m, i, ()), (), ()) N)) = ( ifp (!leInt m i) ((0 : Int) ≤ wrapF .i64 (Int.mul 8 i) ∧ 1 ≤ 1 ∧ ifp (roomy (out.length.add 1) 1) (True ∧ ∃ (l : List Int), (WkL (out.flatMap Eu8.f ++ [AV.int .u8 (wrapF .u8 (shrV .u64 n (wrapF .i64 (Int.mul 8 i))))]) (l.flatMap Eu8.f) ∧ out.length.add 1 = l.length ∧ 1 = 1) ∧ true = true ∧ N ((n, l, m, wrapF .i64 (i.add 1), ()), (), ())) False) (True ∧ ∃ l, Ow Eu8 out l 1 ∧ true = true ∧ R0 ((n, out, m, i, ()), (), ()) (l, ()) ((), ()))) := by kernel_rfl
def uMk : putZ → Prop := fun ((n, out, m, i, ()), (), ()) => ∃ k w : Nat, i = k ∧ m = w ∧ k ≤ w ∧ w ≤ 8 ∧ 0 ≤ n ∧ out.length ≤ 100000000 + k
def uTm : putZ → Nat := fun ((n, out, m, i, ()), (), ()) => m.toNat - i.toNat
def uRu : putZ → uAt → uAg → Prop := fun ((n, out, m, i, ()), (), ()) (r, _) _ => r = out ++ (putV n m.toNat).drop i.toNat
noncomputable def putC : LoopC := loopC 0 uRv (uHm uRu) uMk
theorem putStep : stepsOk PP uBk 100 188 31 (loopBody PP 188 3) 0 true uRv (uHm uRu) uMk uTm ⟨_, _, uRt, uRw, fun x y => (x, y)⟩ := by
 intro x y hz
 obtain ⟨n, out, m, i, _⟩ := x
 obtain ⟨_, _⟩ := y
 refine (putForm n out m i _ _).mpr ?_
 obtain ⟨k, w, rfl, rfl, hk, hw, hn, ho⟩ := hz
 rw [ifp_lt]
 split
 ·rename_i h
  have hkw : k < w := by omega
  rw [mul8 (by omega)]
  refine ⟨by omega, ?_⟩
  repeat first | refine ⟨Nat.le_refl _, ?_⟩ | rw [ifp_pos (roomy_small (by simp only [Nat.add_eq]; omega) (by decide))] | refine ⟨trivial, ?_⟩ | refine ⟨(rfl : true = true), ?_⟩ | refine ⟨idx_ok (by omega), ?_⟩ | refine ⟨idx_ok0 (by omega), ?_⟩ | refine ⟨_, nth_int (by omega), ?_⟩ | refine ⟨_, _, _, _, _, _, nth_lst (by omega), ?_⟩ | refine ⟨_, _, _, _, _, _, nth_lst0 (by omega), ?_⟩ | refine ⟨_, Wk.refl _, ?_⟩ | rw [ifp_pos rfl]
  refine ⟨out ++ [(n / 256 ^ k) % 256], ⟨wkl_snoc ⟨by rw [shr_byte hn (by omega)]; exact Wk.refl _, trivial⟩, len_snoc, rfl⟩, rfl, ?_⟩
  rw [wsucc (by omega)]
  refine ⟨⟨k + 1, w, rfl, rfl, hkw, hw, hn, by rw [List.length_append]; simp; omega⟩, by show w - (k + 1) < w - k; omega, fun c _ hr => ?_, trivial⟩
  obtain ⟨r, _⟩ := c
  have hr' : r = (out ++ [(n / 256 ^ k) % 256]) ++ (putV n w).drop (k + 1) := hr
  show r = out ++ (putV n w).drop k
  rw [hr', putV_drop hkw, List.append_assoc]; rfl
 ·rename_i h
  repeat first | refine ⟨Nat.le_refl _, ?_⟩ | rw [ifp_pos (roomy_small (by simp only [Nat.add_eq]; omega) (by decide))] | refine ⟨trivial, ?_⟩ | refine ⟨(rfl : true = true), ?_⟩ | refine ⟨idx_ok (by omega), ?_⟩ | refine ⟨idx_ok0 (by omega), ?_⟩ | refine ⟨_, nth_int (by omega), ?_⟩ | refine ⟨_, _, _, _, _, _, nth_lst (by omega), ?_⟩ | refine ⟨_, _, _, _, _, _, nth_lst0 (by omega), ?_⟩ | refine ⟨_, Wk.refl _, ?_⟩ | rw [ifp_pos rfl]
  refine ⟨out, ⟨WkL.refl _, rfl, rfl⟩, rfl, ?_⟩
  show out = out ++ (putV n w).drop k
  rw [List.drop_of_length_le (by rw [uAr]; omega), List.append_nil]
theorem putOk : LoopOk PP 188 31 (.loop (loopBody PP 188 3)) (putC) := loop_ok uTm  mixed (KL_ok (cc_nil)) rfl (steps_cons putStep (steps_nil))
noncomputable def putT : Tel ((List Int) × Int × Int × Unit) := .cons 0 (.lst Eu8) (.cons 1 (.int .u64) (.ji 2 (.nil)))
theorem putFn (b : List Int) (n w : Int) (Q : AV → Prop) : (callW PP (runW PP (KL [] [(188, [(3, putC)])]) 200) 188 (putT.cells id (b, n, w, ())) (stE true) (fun x st => frzW st x Q)) = ( (0 : Int) ≤ 0 ∧ (0 : Int) ≤ wrapF .i64 ((Int.ofNat b.length).add 8) ∧ wrapF .i64 ((Int.ofNat b.length).add 8) ≤ 16777216 ∧ roomy (natOf (wrapF .i64 ((Int.ofNat b.length).add 8))) 1 = true ∧ (0 : Int) = 0 ∧ (b.flatMap Eu8.f).length = b.length.mul 1 ∧ ifp (allScalar (b.flatMap Eu8.f) && true) (ifp (roomy (Nat.add 0 b.length) 1) (LoopOk PP 188 31 (loopBody PP 188 3).loop putC ∧ True ∧ True ∧ ∃ (l : List Int), (WkL ([] ++ b.flatMap Eu8.f) (l.flatMap Eu8.f) ∧ Nat.add 0 b.length = l.length ∧ 1 = 1) ∧ true = true ∧ uMk ((n, l, ifb (leInt (ifb (leInt 0 w) w 0) 8) (ifb (leInt 0 w) w 0) 8, 0, ()), (), ()) ∧ (∀ c d, uRu ((n, l, ifb (leInt (ifb (leInt 0 w) w 0) 8) (ifb (leInt 0 w) w 0) 8, 0, ()), (), ()) c d → Q (AV.vs (List.flatMap Eu8.f c.1) c.1.length c.1.length false (some 2) 1)) ∧ True) False) False) := by kernel_rfl
def uEv : (List Int) × Int × Int × Unit → Prop := fun (b, n, w, ()) => 0 ≤ n ∧ n < 18446744073709551616 ∧ 0 ≤ w ∧ w ≤ 8 ∧ b.length ≤ 10000000
noncomputable def uQm : (List Int) × Int × Int × Unit → AV := fun (b, n, w, ()) => lst Eu8 (b ++ putV n w.toNat)
noncomputable def putK : CallC := valC putT uEv uQm
theorem putVal (b : List Int) (n : Int) (w : Int) (hp : uEv (b, n, w, ())) : Val PP 188 (putT.cells id (b, n, w, ())) (uQm (b, n, w, ())) := by
 refine Val.ofF mixed (KL_ok (cc_nil)) (freesC rfl _) (putFn b n w) ?_
 obtain ⟨p1, p2, p3, p4, p5⟩ := hp
 have e1 : wrapF .i64 ((Int.ofNat b.length).add 8) = ((b.length + 8 : Nat) : Int) := by rw [w64 (by show _ ≤ (b.length : Int) + 8; omega) (by show (b.length : Int) + 8 < _; omega)]; rfl
 simp only [ifb_le, if_pos p3, if_pos p4, e1, natOf_nat]
 refine ⟨by omega, by omega, by omega, roomy_small (by omega) (by decide), trivial, Enc.flen Eu8 b, ?_⟩
 rw [ifp_pos (by rw [Enc.fscal Eu8]; rfl)]
 repeat first | refine ⟨Nat.le_refl _, ?_⟩ | rw [ifp_pos (roomy_small (by simp only [Nat.add_eq]; omega) (by decide))] | refine ⟨trivial, ?_⟩ | refine ⟨(rfl : true = true), ?_⟩ | refine ⟨idx_ok (by omega), ?_⟩ | refine ⟨idx_ok0 (by omega), ?_⟩ | refine ⟨_, nth_int (by omega), ?_⟩ | refine ⟨_, _, _, _, _, _, nth_lst (by omega), ?_⟩ | refine ⟨_, _, _, _, _, _, nth_lst0 (by omega), ?_⟩ | refine ⟨_, Wk.refl _, ?_⟩ | rw [ifp_pos rfl]
 refine ⟨putOk, trivial, trivial, b, ⟨by simpa using WkL.refl _, by simp, trivial⟩, trivial, ⟨0, w.toNat, rfl, by omega, by omega, by omega, p1, by omega⟩, fun c _ hr => ?_, trivial⟩
 obtain ⟨r, _⟩ := c
 have hr' : r = b ++ (putV n w.toNat).drop 0 := hr
 obtain rfl : r = b ++ putV n w.toNat := by rw [hr']; rfl
 exact tells_lst ⟨rfl, rfl, rfl⟩
theorem uP5 : CcOk PP 188 putK := val_ok rfl (fun ⟨b, ⟨n, ⟨w, _⟩⟩⟩ h => putVal b n w h)
theorem uFu {l : List (List Int)} {b : Nat} (h : ∀ x ∈ l, x.length ≤ b) : l.flatten.length ≤ l.length * b := by
 induction l with
 | nil => simp
 | cons a l ih =>
  have h1 := h a (by simp)
  have h2 := ih (fun x hx => h x (by simp [hx]))
  simp only [List.flatten_cons, List.length_append, List.length_cons, Nat.add_mul]; omega
theorem uBp {l : List (List Int)} {k : Nat} (h : k < l.length) : (l.take (k + 1)).flatten = (l.take k).flatten ++ l[k] := by
 rw [← List.take_append_getElem h, List.flatten_append]; simp
theorem uBo (l : List (List Int)) (k : Nat) : (l.take k).flatten.length ≤ l.flatten.length := by
 conv => rhs; rw [← List.take_append_drop k l, List.flatten_append, List.length_append]
 omega
abbrev uQl := (List (List Int)) × (List (List Int)) × Int × Int × Int × Unit
abbrev uC3 := uQl × (Unit)
noncomputable def uIx : Tel uQl := .cons 9 (.lst Ell) (.cons 0 (.lst Ell) (.ji 3 (.ji 10 (.ji 11 (.nil)))))
noncomputable def uI0 : BTel (Unit) := .nil
noncomputable def uIz : List (LForm uC3) := [⟨_, _, uIx, uI0, fun x y => (x, y)⟩]
abbrev uP4 := (List (List Int)) × Int × Unit
noncomputable def uEa (R0 : uC3 → uP4 → (Unit) → Prop) : List (Alt uC3) := [⟨.exit 0, uP4, Unit, .cons 0 (.lst Ell) (.ji 3 (.nil)), .nil, R0⟩]
theorem ccat1Form (l c : List (List Int)) (s n i : Int) (N : uC3 → Prop) (R0 : uC3 → uP4 → (Unit) → Prop) : ((runW PP uBk 100).code none 187 36 (loopBody PP 187 3) (mkT (uIx.av id (l, c, s, n, i, ()))) [] (stL false (uI0.obs id ())) (postL 0 uIz (uEa R0) ((l, c, s, n, i, ()), ()) N)) = ( ifp (!leInt n i) (idxOk i l.length ∧ ∃ l' n_1 c_1 x w e, nth ((natOf i).mul 1) (l.flatMap Ell.f) = some (AV.vs l' n_1 c_1 x w e) ∧ ifp (!leInt 0 (wrapF .i64 (s.add (Int.ofNat n_1)))) False (True ∧ ∃ l_1, Wv Ell l l_1 ∧ ∃ l, Wv Ell c l ∧ true = true ∧ N ((l_1, l, wrapF .i64 (s.add (Int.ofNat n_1)), n, wrapF .i64 (i.add 1), ()), ()))) (True ∧ ∃ l_1, Wv Ell c l_1 ∧ true = true ∧ R0 ((l, c, s, n, i, ()), ()) (l_1, s, ()) ())) := by kernel_rfl
def uF4 : uC3 → Prop := fun ((l, c, s, n, i, ()), ()) => ∃ k : Nat, i = k ∧ n = l.length ∧ k ≤ l.length ∧ l.length ≤ 4096 ∧ (∀ x ∈ l, x.length ≤ 1024) ∧ s = ((l.take k).flatten.length : Nat)
def uOs : uC3 → Nat := fun ((l, c, s, n, i, ()), ()) => l.length - i.toNat
def uIy : uC3 → uP4 → (Unit) → Prop := fun ((l, c, s, n, i, ()), ()) (c2, r, _) _ => c2 = c ∧ r = (l.flatten.length : Nat)
noncomputable def uOt : LoopC := loopC 0 uIz (uEa uIy) uF4
theorem ccat1Step : stepsOk PP uBk 100 187 36 (loopBody PP 187 3) 0 false uIz (uEa uIy) uF4 uOs ⟨_, _, uIx, uI0, fun x y => (x, y)⟩ := by
 intro x y hz
 obtain ⟨l, c, s, n, i, _⟩ := x
 obtain _ := y
 refine (ccat1Form l c s n i _ _).mpr ?_
 obtain ⟨k, rfl, rfl, hk, hl, hx, rfl⟩ := hz
 rw [ifp_lt]
 simp only [natOf_nat]
 have hb := uFu hx
 have hb2 := uBo l k
 split
 ·rename_i h
  have hkl : k < l.length := by simpa using h
  have hb3 := uBo l (k + 1)
  rw [uBp hkl, List.length_append] at hb3
  repeat first | refine ⟨Nat.le_refl _, ?_⟩ | rw [ifp_pos (roomy_small (by simp only [Nat.add_eq]; omega) (by decide))] | refine ⟨trivial, ?_⟩ | refine ⟨(rfl : true = true), ?_⟩ | refine ⟨idx_ok (by omega), ?_⟩ | refine ⟨idx_ok0 (by omega), ?_⟩ | refine ⟨_, nth_int (by omega), ?_⟩ | refine ⟨_, _, _, _, _, _, nth_lst (by omega), ?_⟩ | refine ⟨_, _, _, _, _, _, nth_lst0 (by omega), ?_⟩ | refine ⟨_, Wk.refl _, ?_⟩ | rw [ifp_pos rfl]
  have e : wrapF .i64 (Int.add (((l.take k).flatten.length : Nat) : Int) (Int.ofNat l[k].length)) = (((l.take (k + 1)).flatten.length : Nat) : Int) := by
   rw [uBp hkl, List.length_append, w64 (by show _ ≤ (((l.take k).flatten.length : Nat) : Int) + (l[k].length : Int); omega) (by show (((l.take k).flatten.length : Nat) : Int) + (l[k].length : Int) < _; omega)]
   show (((l.take k).flatten.length : Nat) : Int) + (l[k].length : Int) = _; omega
  rw [e, ifp_lt, if_neg (by omega)]
  repeat first | refine ⟨Nat.le_refl _, ?_⟩ | rw [ifp_pos (roomy_small (by simp only [Nat.add_eq]; omega) (by decide))] | refine ⟨trivial, ?_⟩ | refine ⟨(rfl : true = true), ?_⟩ | refine ⟨idx_ok (by omega), ?_⟩ | refine ⟨idx_ok0 (by omega), ?_⟩ | refine ⟨_, nth_int (by omega), ?_⟩ | refine ⟨_, _, _, _, _, _, nth_lst (by omega), ?_⟩ | refine ⟨_, _, _, _, _, _, nth_lst0 (by omega), ?_⟩ | refine ⟨_, Wk.refl _, ?_⟩ | rw [ifp_pos rfl]
  rw [wsucc (by omega)]
  exact ⟨⟨k + 1, rfl, rfl, hkl, hl, hx, rfl⟩, by show l.length - (k + 1) < l.length - k; omega, fun _ _ h => h, trivial⟩
 ·rename_i h
  repeat first | refine ⟨Nat.le_refl _, ?_⟩ | rw [ifp_pos (roomy_small (by simp only [Nat.add_eq]; omega) (by decide))] | refine ⟨trivial, ?_⟩ | refine ⟨(rfl : true = true), ?_⟩ | refine ⟨idx_ok (by omega), ?_⟩ | refine ⟨idx_ok0 (by omega), ?_⟩ | refine ⟨_, nth_int (by omega), ?_⟩ | refine ⟨_, _, _, _, _, _, nth_lst (by omega), ?_⟩ | refine ⟨_, _, _, _, _, _, nth_lst0 (by omega), ?_⟩ | refine ⟨_, Wk.refl _, ?_⟩ | rw [ifp_pos rfl]
  exact ⟨rfl, by rw [take_all (by simpa using h)]⟩
theorem ccat1Ok : LoopOk PP 187 36 (.loop (loopBody PP 187 3)) (uOt) := loop_ok uOs  mixed (KL_ok (cc_nil)) rfl (steps_cons ccat1Step (steps_nil))
abbrev uC2 := ((List (List Int)) × Int × Int × (Nat × Nat) × Unit) × uAt
noncomputable def uIt : Tel ((List (List Int)) × Int × Int × (Nat × Nat) × Unit) := .cons 25 (.lst Ell) (.ji 26 (.ji 27 (.cons 6 (.slq 0 1) (.nil))))
noncomputable def uIw : BTel uAt := .cons (.rows Ei32 21) (.nil)
noncomputable def uIv : List (LForm uC2) := [⟨_, _, uIt, uIw, fun x y => (x, y)⟩]
abbrev uP3 := (Nat × Nat) × Unit
noncomputable def uD9 (R0 : uC2 → uP3 → uAt → Prop) : List (Alt uC2) := [⟨.exit 2, uP3, uAt, .cons 6 (.slq 0 1) (.nil), .cons (.rows Ei32 21) (.nil), R0⟩]
theorem ccat2Form (l : List (List Int)) (n i : Int) (out : Nat × Nat) (m : List Int) (N : uC2 → Prop) (R0 : uC2 → uP3 → uAt → Prop) : ((runW PP (KLS [] [] 21) 100).code none 187 36 (loopBody PP 187 11) (mkT (uIt.av id (l, n, i, out, ()))) [] (stL false (uIw.obs id (m, ()))) (postL 0 uIv (uD9 R0) ((l, n, i, out, ()), m, ()) N)) = ( ifp (!leInt n i) (idxOk i l.length ∧ ∃ l' n_1 c x w e, nth ((natOf i).mul 1) (l.flatMap Ell.f) = some (AV.vs l' n_1 c x w e) ∧ ifp (e.beq 1) (l'.length = n_1.mul e ∧ ifp (allScalar l' && true) ((out.2 < out.1.add n_1 ∧ 0 = 0 ∧ out.1.mul 1 = (m.flatMap Ei32.f).length ∧ roomy (out.1.add n_1) 4 = true ∧ True ∧ ∃ l_1, Wv Ell l l_1 ∧ ∃ (l : List Int), m.flatMap Ei32.f ++ l' = l.flatMap Ei32.f ∧ true = true ∧ N ((l_1, n, wrapF .i64 (i.add 1), (out.1.add n_1, out.1.add n_1), ()), l, ())) ∨ out.1.add n_1 ≤ out.2 ∧ n_1 ≠ 0 ∧ (Nat.add 0 (out.1.mul 1)).add l'.length ≤ (m.flatMap Ei32.f).length ∧ True ∧ ∃ l_1, Wv Ell l l_1 ∧ ∃ (l : List Int), setAt (Nat.add 0 (out.1.mul 1)) l' (m.flatMap Ei32.f) = l.flatMap Ei32.f ∧ true = true ∧ N ((l_1, n, wrapF .i64 (i.add 1), (out.1.add n_1, out.2), ()), l, ())) False) False) (True ∧ ∃ l_1, Sa Ei32 m l_1 ∧ true = true ∧ R0 ((l, n, i, out, ()), m, ()) (out, ()) (l_1, ()))) := by kernel_rfl
def uF3 : uC2 → Prop := fun ((l, n, i, out, ()), m, ()) => ∃ k : Nat, i = k ∧ n = l.length ∧ k ≤ l.length ∧ l.length ≤ 4096 ∧ (∀ x ∈ l, 1 ≤ x.length ∧ x.length ≤ 1024) ∧ out = ((l.take k).flatten.length, l.flatten.length) ∧ m.length = l.flatten.length ∧ m.take (l.take k).flatten.length = (l.take k).flatten
def uOr : uC2 → Nat := fun ((l, n, i, out, ()), m, ()) => l.length - i.toNat
def uIu : uC2 → uP3 → uAt → Prop := fun ((l, n, i, out, ()), m, ()) (r, _) (m2, _) => r = (l.flatten.length, l.flatten.length) ∧ m2 = l.flatten
noncomputable def uLd : LoopC := loopC 0 uIv (uD9 uIu) uF3
theorem ccat2Step : stepsOk PP (KLS [] [] 21) 100 187 36 (loopBody PP 187 11) 0 false uIv (uD9 uIu) uF3 uOr ⟨_, _, uIt, uIw, fun x y => (x, y)⟩ := by
 intro x y hz
 obtain ⟨l, n, i, out, _⟩ := x
 obtain ⟨m, _⟩ := y
 refine (ccat2Form l n i out m _ _).mpr ?_
 obtain ⟨k, rfl, rfl, hk, hl, hx, rfl, hm, ht⟩ := hz
 rw [ifp_lt]
 simp only [natOf_nat]
 split
 ·rename_i h
  have hkl : k < l.length := by simpa using h
  have hb3 := uBo l (k + 1)
  rw [uBp hkl, List.length_append] at hb3
  have h1 := hx _ (List.getElem_mem hkl)
  repeat first | refine ⟨Nat.le_refl _, ?_⟩ | rw [ifp_pos (roomy_small (by simp only [Nat.add_eq]; omega) (by decide))] | refine ⟨trivial, ?_⟩ | refine ⟨(rfl : true = true), ?_⟩ | refine ⟨idx_ok (by omega), ?_⟩ | refine ⟨idx_ok0 (by omega), ?_⟩ | refine ⟨_, nth_int (by omega), ?_⟩ | refine ⟨_, _, _, _, _, _, nth_lst (by omega), ?_⟩ | refine ⟨_, _, _, _, _, _, nth_lst0 (by omega), ?_⟩ | refine ⟨_, Wk.refl _, ?_⟩ | rw [ifp_pos rfl]
  refine ⟨Enc.flen Ei32 _, ?_⟩
  rw [ifp_pos (by rw [Enc.fscal Ei32]; rfl)]
  have e0 : Nat.add 0 (Nat.mul (l.take k).flatten.length 1) = (l.take k).flatten.length := by simp
  have e1 : (l[k].flatMap Ei32.f).length = l[k].length := (Enc.flen Ei32 _).trans (Nat.mul_one _)
  have e2 : (m.flatMap Ei32.f).length = m.length := (Enc.flen Ei32 _).trans (Nat.mul_one _)
  refine Or.inr ⟨by simp only [Nat.add_eq]; omega, by omega, by rw [e0, e1, e2]; simp only [Nat.add_eq]; omega, trivial, l, Wk.refl _, m.take (l.take k).flatten.length ++ l[k] ++ m.drop ((l.take k).flatten.length + l[k].length), ?_, by first | trivial | rfl, ?_⟩
  ·rw [e0]; exact setAt_app (E := Ei32) rfl (by omega)
  ·rw [wsucc (by omega)]
   refine ⟨⟨k + 1, rfl, rfl, hkl, hl, hx, ?_, ?_, ?_⟩, by show l.length - (k + 1) < l.length - k; omega, fun _ _ h => h, trivial⟩
   ·rw [uBp hkl, List.length_append]; rfl
   ·simp only [List.length_append, List.length_take, List.length_drop]; omega
   ·rw [uBp hkl, List.length_append, ht, List.take_append_of_le_length (by simp)]
    exact List.take_of_length_le (by simp)
 ·rename_i h
  have hkl : ¬ k < l.length := by simpa using h
  rw [take_all hkl] at ht
  refine ⟨trivial, m, by first | trivial | rfl, by first | trivial | rfl, ?_⟩
  rw [take_all hkl]
  exact ⟨rfl, by rw [← ht, List.take_of_length_le (by omega)]⟩
theorem ccat2Ok : LoopOk PP 187 36 (.loop (loopBody PP 187 11)) (uLd) := loop_ok uOr  mixed (KLS_ok (cc_nil)) rfl (steps_cons ccat2Step (steps_nil))
abbrev uKq := (List (List Int)) × Unit
noncomputable def uSt : Tel uKq := .cons 0 (.lst Ell) (.nil)
theorem ccatFn (c : List (List Int)) (Q : AV → Prop) : (callW PP (runW PP (KLS [] [(187, [(3, uOt), (11, uLd)])] 21) 200) 187 (uSt.cells id (c, ())) (stE false) (fun x st => frzW st x Q)) = ( LoopOk PP 187 36 (loopBody PP 187 3).loop uOt ∧ True ∧ True ∧ ∃ l, Wv Ell c l ∧ ∃ l_1, Wv Ell c l_1 ∧ true = true ∧ uF4 ((l, l_1, 0, Int.ofNat c.length, 0, ()), ()) ∧ (∀ c_1 d, uIy ((l, l_1, 0, Int.ofNat c.length, 0, ()), ()) c_1 d → ifp (!leInt 0 c_1.2.1) False (ifp (!leInt (wrapF .i64 (c_1.2.1.sub 0)) 0) ((0 : Int) ≤ wrapF .i64 (c_1.2.1.sub 0) ∧ wrapF .i64 (c_1.2.1.sub 0) ≤ 16777216 ∧ roomy (natOf (wrapF .i64 (c_1.2.1.sub (wrapF .i64 (Int.sub 0 0))))) 4 = true ∧ ifp (allScalar (repl (natOf (wrapF .i64 (c_1.2.1.sub (wrapF .i64 (Int.sub 0 0))))) [AV.int .i32 0]) && true) (natOf (wrapF .i64 (c_1.2.1.sub (wrapF .i64 (Int.sub 0 0)))) ≠ 0 ∧ roomy (natOf (wrapF .i64 (c_1.2.1.sub (wrapF .i64 (Int.sub 0 0))))) 4 = true ∧ (0 : Int) ≤ 0 ∧ (0 : Int) ≤ ↑(natOf (wrapF .i64 (c_1.2.1.sub (wrapF .i64 (Int.sub 0 0))))) ∧ LoopOk PP 187 36 (loopBody PP 187 11).loop uLd ∧ True ∧ True ∧ ∃ l, Wv Ell c_1.1 l ∧ ∃ (l_2 : List Int), repl (natOf (wrapF .i64 (c_1.2.1.sub (wrapF .i64 (Int.sub 0 0))))) [AV.int .i32 0] = l_2.flatMap Ei32.f ∧ true = true ∧ uF3 ((l, Int.ofNat c_1.1.length, 0, (0, (natOf (wrapF .i64 (c_1.2.1.sub (wrapF .i64 (Int.sub 0 0))))).sub 0), ()), l_2, ()) ∧ (∀ c d, uIu ((l, Int.ofNat c_1.1.length, 0, (0, (natOf (wrapF .i64 (c_1.2.1.sub (wrapF .i64 (Int.sub 0 0))))).sub 0), ()), l_2, ()) c d → Nat.add 0 (c.1.1.mul 1) ≤ (List.flatMap Ei32.f d.1).length ∧ Q (AV.vs (List.take (c.1.1.mul 1) (List.drop 0 (List.flatMap Ei32.f d.1))) c.1.1 c.1.2 false none 1)) ∧ True) False) (LoopOk PP 187 36 (loopBody PP 187 11).loop uLd ∧ True ∧ True ∧ ∃ l, Wv Ell c_1.1 l ∧ False))) ∧ True) := by kernel_rfl
def uF2 : (List (List Int)) × Unit → Prop := fun (c, ()) => 1 ≤ c.length ∧ c.length ≤ 4096 ∧ ∀ x ∈ c, 1 ≤ x.length ∧ x.length ≤ 1024
noncomputable def uOq : (List (List Int)) × Unit → AV := fun (c, ()) => lst Ei32 c.flatten
noncomputable def uSu : CallC := valC uSt uF2 uOq
theorem ccatVal (c : List (List Int)) (hp : uF2 (c, ())) : Val PP 187 (uSt.cells id (c, ())) (uOq (c, ())) := by
 refine Val.ofF mixed (KLS_ok (cc_nil)) (freesC rfl _) (ccatFn c) ?_
 obtain ⟨p1, p2, p3⟩ := hp
 have hb := uFu (fun x hx => (p3 x hx).2)
 have hpos : 1 ≤ c.flatten.length := by
  cases c with
  | nil => simp at p1
  | cons a c => have := p3 a (by simp); rw [List.flatten_cons, List.length_append]; omega
 refine ⟨ccat1Ok, trivial, trivial, c, Wk.refl _, c, Wk.refl _, rfl, ⟨0, rfl, rfl, by omega, p2, fun x hx => (p3 x hx).2, rfl⟩, fun d _ hr => ?_, trivial⟩
 obtain ⟨c2, s, _⟩ := d
 obtain ⟨rfl, rfl⟩ := hr
 have e : wrapF .i64 (Int.sub ((c2.flatten.length : Nat) : Int) 0) = ((c2.flatten.length : Nat) : Int) := by rw [w64 (by show _ ≤ (c2.flatten.length : Int) - 0; omega) (by show (c2.flatten.length : Int) - 0 < _; omega)]; exact Int.sub_zero _
 have e0 : wrapF .i64 (Int.sub 0 0) = 0 := rfl
 simp only [e0, e, natOf_nat]
 rw [ifp_lt, if_neg (by omega), ifp_lt, if_pos (by omega)]
 refine ⟨by omega, by omega, roomy_small (by omega) (by decide), ?_⟩
 rw [show [AV.int .i32 (0 : Int)] = Ei32.f 0 from rfl, repl_enc, ifp_pos (by rw [Enc.fscal Ei32]; rfl)]
 refine ⟨by omega, roomy_small (by omega) (by decide), by omega, by omega, ccat2Ok, trivial, trivial, c2, Wk.refl _, List.replicate c2.flatten.length 0, rfl, by first | trivial | rfl, ⟨0, rfl, rfl, by omega, p2, p3, by simp, by simp, by simp⟩, fun d m hr => ?_, trivial⟩
 obtain ⟨r, _⟩ := d
 obtain ⟨m, _⟩ := m
 obtain ⟨rfl, rfl⟩ := hr
 have e2 : (c2.flatten.flatMap Ei32.f).length = c2.flatten.length := (Enc.flen Ei32 _).trans (Nat.mul_one _)
 refine ⟨by rw [e2]; simp, ?_⟩
 exact tells_lst ⟨by show List.take (Nat.mul _ 1) _ = _; rw [List.take_of_length_le (by rw [List.length_drop, e2]; simp)]; rfl, rfl, rfl⟩
theorem uQ6 : CcOk PP 187 uSu := val_ok rfl (fun ⟨c, _⟩ h => ccatVal c h)
def u64 (x : Int) : Int := x % 18446744073709551616
def uAb (c : List (List Int)) : List Int := if uAk c = 0 then c.flatten.flatMap (fun x => putV (u64 x) 4) else []
theorem uJ6 {x : Int} (h1 : -2147483648 ≤ x) (h2 : x < 2147483648) : wrapF .u64 (wrapF .i64 x) = u64 x := by
 rw [w64 (by omega) (by omega), wrapF_eq]; rfl
theorem uB8 (x : Int) : 0 ≤ u64 x ∧ u64 x < 18446744073709551616 := by unfold u64; omega
theorem uFs {α β : Type} {f : α → List β} {l : List α} {k : Nat} (h : k < l.length) : (l.take (k + 1)).flatMap f = (l.take k).flatMap f ++ f l[k] := by
 rw [← List.take_append_getElem h, List.flatMap_append]; simp
theorem uAq (l : List Int) : (l.flatMap fun x => putV (u64 x) 4).length = l.length * 4 := by
 induction l with
 | nil => rfl
 | cons a l ih => rw [List.flatMap_cons, List.length_append, ih, uAr, List.length_cons]; omega
abbrev bytZ := ((List Int) × Int × Int × (List Int) × Unit) × uAg
noncomputable def uSx : Tel ((List Int) × Int × Int × (List Int) × Unit) := .cons 10 (.lst Ei32) (.ji 11 (.ji 12 (.cons 3 (.own Eu8 0) (.nil))))
noncomputable def uSz : BTel uAg := .cons (.spare) (.nil)
noncomputable def uOv : Tel ((List Int) × Int × Int × Unit × Unit) := .cons 10 (.lst Ei32) (.ji 11 (.ji 12 (.cons 3 (.nilS) (.nil))))
noncomputable def uOy : BTel (Unit) := .nil
noncomputable def uSw : ((List Int) × Int × Int × Unit × Unit) → (Unit) → bytZ := fun (l, n, i, (), ()) () => ((l, n, i, [], ()), (), ())
noncomputable def uOx : List (LForm bytZ) := [⟨_, _, uSx, uSz, fun x y => (x, y)⟩, ⟨_, _, uOv, uOy, uSw⟩]
noncomputable def uEb (R0 : bytZ → uAt → uAg → Prop) (R1 : bytZ → uAg → (Unit) → Prop) : List (Alt bytZ) := [⟨.exit 0, uAt, Unit × Unit, .cons 3 (.own Eu8 0) (.nil), .cons (.spare) (.nil), R0⟩, ⟨.exit 0, Unit × Unit, Unit, .cons 3 (.nilS) (.nil), .nil, R1⟩]
noncomputable abbrev uKu := KL [(188, putK)] []
theorem bytForm (l : List Int) (n i : Int) (out : List Int) (N : bytZ → Prop) (R0 : bytZ → uAt → uAg → Prop) (R1 : bytZ → uAg → (Unit) → Prop) : ((runW PP uKu 100).code none 126 24 (loopBody PP 126 5) (mkT (uSx.av id (l, n, i, out, ()))) [] (stL true (uSz.obs id ((), ()))) (postL 0 uOx (uEb R0 R1) ((l, n, i, out, ()), (), ()) N)) = ( ifp (!leInt n i) (idxOk i l.length ∧ ∃ x : Int, nth ((natOf i).mul 1) (l.flatMap Ei32.f) = some (AV.int .i32 x) ∧ ∃ (l_1 : List Int), Wk AV.nilSlice (lst Eu8 l_1) ∧ uEv (l_1, wrapF .u64 (wrapF .i64 x), 4, ()) ∧ (List.flatMap Eu8.f (l_1 ++ [wrapF .u64 (wrapF .i64 x) / 256 ^ nat_lit 0 % 256, wrapF .u64 (wrapF .i64 x) / 256 ^ nat_lit 1 % 256, wrapF .u64 (wrapF .i64 x) / 256 ^ nat_lit 2 % 256, wrapF .u64 (wrapF .i64 x) / 256 ^ nat_lit 3 % 256])).length = (l_1 ++ [wrapF .u64 (wrapF .i64 x) / 256 ^ nat_lit 0 % 256, wrapF .u64 (wrapF .i64 x) / 256 ^ nat_lit 1 % 256, wrapF .u64 (wrapF .i64 x) / 256 ^ nat_lit 2 % 256, wrapF .u64 (wrapF .i64 x) / 256 ^ nat_lit 3 % 256]).length.mul 1 ∧ ifp (allScalar (List.flatMap Eu8.f (l_1 ++ [wrapF .u64 (wrapF .i64 x) / 256 ^ nat_lit 0 % 256, wrapF .u64 (wrapF .i64 x) / 256 ^ nat_lit 1 % 256, wrapF .u64 (wrapF .i64 x) / 256 ^ nat_lit 2 % 256, wrapF .u64 (wrapF .i64 x) / 256 ^ nat_lit 3 % 256])) && true) (ifp (roomy (out.length.add (l_1 ++ [wrapF .u64 (wrapF .i64 x) / 256 ^ nat_lit 0 % 256, wrapF .u64 (wrapF .i64 x) / 256 ^ nat_lit 1 % 256, wrapF .u64 (wrapF .i64 x) / 256 ^ nat_lit 2 % 256, wrapF .u64 (wrapF .i64 x) / 256 ^ nat_lit 3 % 256]).length) 1) (True ∧ ((∃ l_2, Wv Ei32 l l_2 ∧ ∃ (l : List Int), (WkL (out.flatMap Eu8.f ++ List.flatMap Eu8.f (l_1 ++ [wrapF .u64 (wrapF .i64 x) / 256 ^ nat_lit 0 % 256, wrapF .u64 (wrapF .i64 x) / 256 ^ nat_lit 1 % 256, wrapF .u64 (wrapF .i64 x) / 256 ^ nat_lit 2 % 256, wrapF .u64 (wrapF .i64 x) / 256 ^ nat_lit 3 % 256])) (l.flatMap Eu8.f) ∧ out.length.add (l_1 ++ [wrapF .u64 (wrapF .i64 x) / 256 ^ nat_lit 0 % 256, wrapF .u64 (wrapF .i64 x) / 256 ^ nat_lit 1 % 256, wrapF .u64 (wrapF .i64 x) / 256 ^ nat_lit 2 % 256, wrapF .u64 (wrapF .i64 x) / 256 ^ nat_lit 3 % 256]).length = l.length ∧ 1 = 1) ∧ true = true ∧ N ((l_2, n, wrapF .i64 (i.add 1), l, ()), (), ())) ∨ ∃ l_2, Wv Ei32 l l_2 ∧ False)) False) False) ((True ∧ ∃ l_1, Ow Eu8 out l_1 1 ∧ true = true ∧ R0 ((l, n, i, out, ()), (), ()) (l_1, ()) ((), ())) ∨ True ∧ False)) := by kernel_rfl
theorem bytForm0 (l : List Int) (n i : Int) (N : bytZ → Prop) (R0 : bytZ → uAt → uAg → Prop) (R1 : bytZ → uAg → (Unit) → Prop) : ((runW PP uKu 100).code none 126 24 (loopBody PP 126 5) (mkT (uOv.av id (l, n, i, (), ()))) [] (stL true (uOy.obs id ())) (postL 0 uOx (uEb R0 R1) (uSw (l, n, i, (), ()) ()) N)) = ( ifp (!leInt n i) (idxOk i l.length ∧ ∃ x : Int, nth ((natOf i).mul 1) (l.flatMap Ei32.f) = some (AV.int .i32 x) ∧ ∃ (l_1 : List Int), Wk AV.nilSlice (lst Eu8 l_1) ∧ uEv (l_1, wrapF .u64 (wrapF .i64 x), 4, ()) ∧ (List.flatMap Eu8.f (l_1 ++ [wrapF .u64 (wrapF .i64 x) / 256 ^ nat_lit 0 % 256, wrapF .u64 (wrapF .i64 x) / 256 ^ nat_lit 1 % 256, wrapF .u64 (wrapF .i64 x) / 256 ^ nat_lit 2 % 256, wrapF .u64 (wrapF .i64 x) / 256 ^ nat_lit 3 % 256])).length = (l_1 ++ [wrapF .u64 (wrapF .i64 x) / 256 ^ nat_lit 0 % 256, wrapF .u64 (wrapF .i64 x) / 256 ^ nat_lit 1 % 256, wrapF .u64 (wrapF .i64 x) / 256 ^ nat_lit 2 % 256, wrapF .u64 (wrapF .i64 x) / 256 ^ nat_lit 3 % 256]).length.mul 1 ∧ ifp (allScalar (List.flatMap Eu8.f (l_1 ++ [wrapF .u64 (wrapF .i64 x) / 256 ^ nat_lit 0 % 256, wrapF .u64 (wrapF .i64 x) / 256 ^ nat_lit 1 % 256, wrapF .u64 (wrapF .i64 x) / 256 ^ nat_lit 2 % 256, wrapF .u64 (wrapF .i64 x) / 256 ^ nat_lit 3 % 256])) && true) (ifp ((l_1 ++ [wrapF .u64 (wrapF .i64 x) / 256 ^ nat_lit 0 % 256, wrapF .u64 (wrapF .i64 x) / 256 ^ nat_lit 1 % 256, wrapF .u64 (wrapF .i64 x) / 256 ^ nat_lit 2 % 256, wrapF .u64 (wrapF .i64 x) / 256 ^ nat_lit 3 % 256]).length.beq 0) (True ∧ ((∃ l_2, Wv Ei32 l l_2 ∧ False) ∨ ∃ l_2, Wv Ei32 l l_2 ∧ true = true ∧ N ((l_2, n, wrapF .i64 (i.add 1), [], ()), (), ()))) (ifp (roomy (l_1 ++ [wrapF .u64 (wrapF .i64 x) / 256 ^ nat_lit 0 % 256, wrapF .u64 (wrapF .i64 x) / 256 ^ nat_lit 1 % 256, wrapF .u64 (wrapF .i64 x) / 256 ^ nat_lit 2 % 256, wrapF .u64 (wrapF .i64 x) / 256 ^ nat_lit 3 % 256]).length 1) (True ∧ ((∃ l_2, Wv Ei32 l l_2 ∧ ∃ l, Ow Eu8 (l_1 ++ [wrapF .u64 (wrapF .i64 x) / 256 ^ nat_lit 0 % 256, wrapF .u64 (wrapF .i64 x) / 256 ^ nat_lit 1 % 256, wrapF .u64 (wrapF .i64 x) / 256 ^ nat_lit 2 % 256, wrapF .u64 (wrapF .i64 x) / 256 ^ nat_lit 3 % 256]) l 1 ∧ true = true ∧ N ((l_2, n, wrapF .i64 (i.add 1), l, ()), (), ())) ∨ ∃ l_2, Wv Ei32 l l_2 ∧ False)) False)) False) (True ∧ False ∨ True ∧ true = true ∧ R1 ((l, n, i, [], ()), (), ()) ((), ()) ())) := by kernel_rfl
def uLf : bytZ → Prop := fun ((l, n, i, out, ()), (), ()) => ∃ k : Nat, i = k ∧ n = l.length ∧ k ≤ l.length ∧ l.length ≤ 4194304 ∧ (∀ x ∈ l, -2147483648 ≤ x ∧ x < 2147483648) ∧ out = (l.take k).flatMap fun x => putV (u64 x) 4
def uSy : bytZ → Nat := fun ((l, n, i, out, ()), (), ()) => l.length - i.toNat
def uP9 : bytZ → uAt → uAg → Prop := fun ((l, n, i, out, ()), (), ()) (r, _) _ => r = l.flatMap fun x => putV (u64 x) 4
def uP8 : bytZ → uAg → (Unit) → Prop := fun ((l, n, i, out, ()), (), ()) _ _ => l = []
noncomputable def bytC : LoopC := loopC 0 uOx (uEb uP9 uP8) uLf
theorem bytStep : stepsOk PP uKu 100 126 24 (loopBody PP 126 5) 0 true uOx (uEb uP9 uP8) uLf uSy ⟨_, _, uSx, uSz, fun x y => (x, y)⟩ := by
 intro x y hz
 obtain ⟨l, n, i, out, _⟩ := x
 obtain ⟨_, _⟩ := y
 refine (bytForm l n i out _ _ _).mpr ?_
 obtain ⟨k, rfl, rfl, hk, hl, hx, rfl⟩ := hz
 rw [ifp_lt]
 simp only [natOf_nat]
 split
 ·rename_i h
  have hkl : k < l.length := by simpa using h
  have h1 := hx _ (List.getElem_mem hkl)
  have hr := uB8 l[k]
  repeat first | refine ⟨Nat.le_refl _, ?_⟩ | rw [ifp_pos (roomy_small (by simp only [Nat.add_eq]; omega) (by decide))] | refine ⟨trivial, ?_⟩ | refine ⟨(rfl : true = true), ?_⟩ | refine ⟨idx_ok (by omega), ?_⟩ | refine ⟨idx_ok0 (by omega), ?_⟩ | refine ⟨_, nth_int (by omega), ?_⟩ | refine ⟨_, _, _, _, _, _, nth_lst (by omega), ?_⟩ | refine ⟨_, _, _, _, _, _, nth_lst0 (by omega), ?_⟩ | refine ⟨_, Wk.refl _, ?_⟩ | rw [ifp_pos rfl]
  refine ⟨[], wk_nil _, ?_⟩
  rw [uJ6 h1.1 h1.2]
  refine ⟨⟨hr.1, hr.2, by decide, by decide, by simp⟩, Enc.flen Eu8 _, ?_⟩
  rw [ifp_pos (by rw [Enc.fscal Eu8]; rfl), ifp_pos (roomy_small (by simp only [Nat.add_eq, List.nil_append, uAr, uAq, List.length_take, List.length_cons, List.length_nil]; omega) (by decide))]
  refine ⟨trivial, Or.inl ⟨l, Wk.refl _, (l.take (k + 1)).flatMap fun x => putV (u64 x) 4, ⟨?_, ?_, by first | trivial | rfl⟩, by first | trivial | rfl, ?_⟩⟩
  ·rw [uFs hkl]; exact wkl_app (m := putV (u64 l[k]) 4)
  ·rw [uFs hkl]; exact len_app (m := putV (u64 l[k]) 4)
  ·rw [wsucc (by omega)]
   exact ⟨⟨k + 1, rfl, rfl, hkl, hl, hx, rfl⟩, by show l.length - (k + 1) < l.length - k; omega, fun _ _ h => h, fun _ _ h => h, trivial⟩
 ·rename_i h
  have hkl : ¬ k < l.length := by simpa using h
  refine Or.inl ⟨trivial, _, ⟨WkL.refl _, by first | trivial | rfl, by first | trivial | rfl⟩, by first | trivial | rfl, ?_⟩
  show List.flatMap _ (l.take k) = _
  rw [take_all hkl]
theorem bytStep0 : stepsOk PP uKu 100 126 24 (loopBody PP 126 5) 0 true uOx (uEb uP9 uP8) uLf uSy ⟨_, _, uOv, uOy, uSw⟩ := by
 intro x y hz
 obtain ⟨l, n, i, _, _⟩ := x
 obtain _ := y
 refine (bytForm0 l n i _ _ _).mpr ?_
 obtain ⟨k, rfl, rfl, hk, hl, hx, h0⟩ := hz
 rw [ifp_lt]
 simp only [natOf_nat]
 have hk0 : k = 0 := by have := congrArg List.length h0; rw [uAq, List.length_take] at this; simp at this; omega
 subst hk0
 split
 ·rename_i h
  have hkl : 0 < l.length := by simpa using h
  have h1 := hx _ (List.getElem_mem hkl)
  have hr := uB8 l[0]
  repeat first | refine ⟨Nat.le_refl _, ?_⟩ | rw [ifp_pos (roomy_small (by simp only [Nat.add_eq]; omega) (by decide))] | refine ⟨trivial, ?_⟩ | refine ⟨(rfl : true = true), ?_⟩ | refine ⟨idx_ok (by omega), ?_⟩ | refine ⟨idx_ok0 (by omega), ?_⟩ | refine ⟨_, nth_int (by omega), ?_⟩ | refine ⟨_, _, _, _, _, _, nth_lst (by omega), ?_⟩ | refine ⟨_, _, _, _, _, _, nth_lst0 (by omega), ?_⟩ | refine ⟨_, Wk.refl _, ?_⟩ | rw [ifp_pos rfl]
  refine ⟨[], wk_nil _, ?_⟩
  rw [uJ6 h1.1 h1.2]
  refine ⟨⟨hr.1, hr.2, by decide, by decide, by simp⟩, Enc.flen Eu8 _, ?_⟩
  rw [ifp_pos (by rw [Enc.fscal Eu8]; rfl)]
  repeat first | refine ⟨Nat.le_refl _, ?_⟩ | rw [ifp_pos (roomy_small (by simp only [Nat.add_eq]; omega) (by decide))] | refine ⟨trivial, ?_⟩ | refine ⟨(rfl : true = true), ?_⟩ | refine ⟨idx_ok (by omega), ?_⟩ | refine ⟨idx_ok0 (by omega), ?_⟩ | refine ⟨_, nth_int (by omega), ?_⟩ | refine ⟨_, _, _, _, _, _, nth_lst (by omega), ?_⟩ | refine ⟨_, _, _, _, _, _, nth_lst0 (by omega), ?_⟩ | refine ⟨_, Wk.refl _, ?_⟩ | rw [ifp_pos rfl]
  refine Or.inl ⟨l, Wk.refl _, putV (u64 l[0]) 4, ⟨WkL.refl _, by first | trivial | rfl, by first | trivial | rfl⟩, by first | trivial | rfl, ?_⟩
  rw [wsucc (by omega)]
  exact ⟨⟨1, rfl, rfl, hkl, hl, hx, by cases l with | nil => simp at hkl | cons a l => simp⟩, by show l.length - 1 < l.length - 0; omega, fun _ _ h => h, fun _ _ h => h, trivial⟩
 ·rename_i h
  have hkl : ¬ 0 < l.length := by simpa using h
  refine Or.inr ⟨trivial, by first | trivial | rfl, ?_⟩
  exact List.length_eq_zero_iff.1 (by omega)
theorem bytOk : LoopOk PP 126 24 (.loop (loopBody PP 126 5)) (bytC) := loop_ok uSy  mixed (KL_ok (cc_cons uP5 (cc_nil))) rfl (steps_cons bytStep (steps_cons bytStep0 (steps_nil)))
theorem uDg {c : List (List Int)} (h : ∀ x ∈ c, cw x = 0) : ∀ x ∈ c.flatten, -2147483648 ≤ x ∧ x < 2147483648 := fun x hx => by
 obtain ⟨l, hl, hx⟩ := List.mem_flatten.1 hx
 have := (uCt (h l hl)).2.2 x hx
 omega
theorem uFz {c : List (List Int)} (h : ∀ x ∈ c, cw x = 0) : ∀ x ∈ c, 1 ≤ x.length ∧ x.length ≤ 1024 := fun x hx => ⟨(uCt (h x hx)).1, (uCt (h x hx)).2.1⟩
noncomputable def bytT : Tel uKq := .cons 0 (.lst Ell) (.nil)
theorem bytFn (c : List (List Int)) (Q : AV → Prop) : (callW PP (runW PP (KL [(137, uLb), (187, uSu), (188, putK)] [(126, [(5, bytC)])]) 200) 126 (bytT.cells id (c, ())) (stE true) (fun x st => frzW st x Q)) = ( ∃ l, Wv Ell c l ∧ uA5 (l, ()) ∧ ifp (!eqInt (uAk l) 0) (Q AV.nilSlice) (∃ l, Wv Ell c l ∧ uF2 (l, ()) ∧ LoopOk PP 126 24 (loopBody PP 126 5).loop bytC ∧ True ∧ True ∧ ((∃ l_1, Wv Ei32 l.flatten l_1 ∧ False) ∨ ∃ l_1, Wv Ei32 l.flatten l_1 ∧ true = true ∧ uLf ((l_1, Int.ofNat l.flatten.length, 0, [], ()), (), ()) ∧ (∀ c d, uP9 ((l_1, Int.ofNat l.flatten.length, 0, [], ()), (), ()) c d → Q (AV.vs (List.flatMap Eu8.f c.1) c.1.length c.1.length false (some 0) 1)) ∧ (∀ c d, uP8 ((l_1, Int.ofNat l.flatten.length, 0, [], ()), (), ()) c d → Q AV.nilSlice) ∧ True))) := by kernel_rfl
def uOw : (List (List Int)) × Unit → Prop := fun (c, ()) => True
noncomputable def uQ7 : (List (List Int)) × Unit → AV := fun (c, ()) => lst Eu8 (uAb c)
noncomputable def bytK : CallC := valC bytT uOw uQ7
theorem bytVal (c : List (List Int)) (hp : uOw (c, ())) : Val PP 126 (bytT.cells id (c, ())) (uQ7 (c, ())) := by
 refine Val.ofF mixed (KL_ok (cc_cons uIq (cc_cons uQ6 (cc_cons uP5 (cc_nil))))) (freesC rfl _) (bytFn c) ?_
 refine ⟨c, Wk.refl _, trivial, ?_⟩
 rw [ifp_ne]
 split
 ·rename_i h
  obtain ⟨h1, h2, h3, h4⟩ := uA3 h
  have hl := uFz h3
  have hb := uFu (fun x hx => (hl x hx).2)
  have he : uAb c = c.flatten.flatMap (fun x => putV (u64 x) 4) := by rw [uAb, if_pos h]
  refine ⟨c, Wk.refl _, ⟨h1, h2, hl⟩, bytOk, trivial, trivial, Or.inr ⟨c.flatten, Wk.refl _, rfl, ⟨0, rfl, rfl, by omega, by omega, uDg h3, rfl⟩, fun d _ hr => ?_, fun _ _ hr => ?_, trivial⟩⟩
  ·obtain ⟨r, _⟩ := d
   have hr' : r = c.flatten.flatMap (fun x => putV (u64 x) 4) := hr
   exact tells_lst ⟨by show List.flatMap _ r = _; rw [hr', ← he], by show r.length = _; rw [hr', ← he], rfl⟩
  ·have hr' : c.flatten = [] := hr
   show Tells .nilSlice (lst Eu8 (uAb c))
   rw [he, hr']; exact tells_nil _
 ·rename_i h
  have he : uAb c = [] := by rw [uAb, if_neg h]
  show Tells .nilSlice (lst Eu8 (uAb c))
  rw [he]; exact tells_nil _
theorem bytCc : CcOk PP 126 bytK := val_ok rfl (fun ⟨c, _⟩ h => bytVal c h)
def ofV : List Int → Int
 | [] => 0
 | x :: l => x + 256 * ofV l
def ofB (b : List Int) : Int := ofV (b.take 8)
def uAe (b : List Int) : Prop := ∀ x ∈ b, 0 ≤ x ∧ x < 256
theorem uEx (x : Int) : ∀ l : List Int, ofV (l ++ [x]) = ofV l + x * 256 ^ l.length
 | [] => by simp [ofV]
 | y :: l => by
  rw [List.cons_append, ofV, uEx x l, ofV, List.length_cons, Int.pow_succ]
  generalize (256 : Int) ^ l.length = q
  rw [Int.mul_add, Int.add_assoc, Int.mul_left_comm, Int.mul_comm q 256]
theorem uDn : ∀ {l : List Int}, uAe l → 0 ≤ ofV l ∧ ofV l < 256 ^ l.length
 | [], _ => by simp [ofV]
 | y :: l, h => by
  have h1 := h y (by simp)
  have h2 := uDn (l := l) (fun x hx => h x (by simp [hx]))
  rw [ofV, List.length_cons, Int.pow_succ]
  generalize (256 : Int) ^ l.length = q at *
  omega
theorem uFb (k : Nat) : ((256 ^ k : Nat) : Int) = (256 : Int) ^ k := by norm_cast
theorem or_byte {a x : Int} {k : Nat} (ha : 0 ≤ a ∧ a < 256 ^ k) (hx : 0 ≤ x ∧ x < 256) (hk : k < 8) :
  wrapF .u64 (Int.ofNat ((natOf (uns (modOf .u64) a)).lor (natOf (uns (modOf .u64) (shlV .u64 (wrapF .u64 x) ((8 * k : Nat) : Int)))))) = a + x * 256 ^ k := by
 obtain ⟨A, rfl⟩ := Int.eq_ofNat_of_zero_le ha.1
 obtain ⟨X, rfl⟩ := Int.eq_ofNat_of_zero_le hx.1
 have hp : 256 ^ (k + 1) ≤ 256 ^ 8 := Nat.pow_le_pow_right (by decide) (by omega)
 have hA : A < 256 ^ k := by have := ha.2; rw [← uFb] at this; omega
 have hX : X < 256 := by omega
 have hq : 256 ^ (k + 1) = 256 ^ k * 256 := Nat.pow_succ ..
 have hXk : X * 256 ^ k ≤ 255 * 256 ^ k := Nat.mul_le_mul_right _ (by omega)
 have hsum : A + X * 256 ^ k < 18446744073709551616 := by
  have : (256 : Nat) ^ 8 = 18446744073709551616 := by decide
  omega
 have e1 : wrapF .u64 (X : Int) = X := wu64 (by omega) (by omega)
 have e2 : shlV .u64 (X : Int) ((8 * k : Nat) : Int) = ((X * 256 ^ k : Nat) : Int) := by
  show wrapF .u64 (Int.mul (X : Int) (.ofNat (Nat.pow 2 (ifb (Nat.ble (8 * k) 64) (8 * k) 64)))) = _
  rw [show Nat.ble (8 * k) 64 = true from ble_t (by omega), ifb_true]
  rw [show Nat.pow 2 (8 * k) = 256 ^ k by show 2 ^ (8 * k) = _; rw [Nat.pow_mul]]
  rw [show Int.mul (X : Int) (Int.ofNat (256 ^ k)) = ((X * 256 ^ k : Nat) : Int) by rw [Int.natCast_mul]; rfl]
  exact wu64 (by omega) (by omega)
 have e3 : ∀ n : Nat, n < 18446744073709551616 → natOf (uns (modOf .u64) (n : Int)) = n := fun n hn => Nat.mod_eq_of_lt hn
 have e4 : A.lor (X * 256 ^ k) = A + X * 256 ^ k := by
  have h := Nat.shiftLeft_add_eq_or_of_lt (b := A) (i := 8 * k) (by rw [Nat.pow_mul]; exact hA) X
  rw [Nat.shiftLeft_eq, Nat.pow_mul] at h
  show A ||| (X * 256 ^ k) = _
  rw [Nat.or_comm]
  have h' : X * 256 ^ k + A = X * 256 ^ k ||| A := h
  rw [← h']; omega
 rw [e1, e2, e3 _ (by omega), e3 _ (by omega), e4]
 rw [show Int.ofNat (A + X * 256 ^ k) = ((A + X * 256 ^ k : Nat) : Int) from rfl, wu64 (by omega) (by omega), Int.natCast_add, Int.natCast_mul, uFb]
abbrev ofZ := ((List Int) × Int × Int × Int × Unit) × (Unit)
noncomputable def ofSl : Tel ((List Int) × Int × Int × Int × Unit) := .cons 0 (.lst Eu8) (.cons 2 (.int .u64) (.ji 6 (.ji 7 (.nil))))
noncomputable def ofBl : BTel (Unit) := .nil
noncomputable def ofFs : List (LForm ofZ) := [⟨_, _, ofSl, ofBl, fun x y => (x, y)⟩]
abbrev uBj := Int × Unit
noncomputable def uMs (R0 : ofZ → uBj → (Unit) → Prop) : List (Alt ofZ) := [⟨.exit 0, Int × Unit, Unit, .cons 2 (.int .u64) (.nil), .nil, R0⟩]
theorem ofForm (b : List Int) (a m i : Int) (N : ofZ → Prop) (R0 : ofZ → uBj → (Unit) → Prop) : ((runW PP uBk 100).code none 196 22 (loopBody PP 196 2) (mkT (ofSl.av id (b, a, m, i, ()))) [] (stL false (ofBl.obs id ())) (postL 0 ofFs (uMs R0) ((b, a, m, i, ()), ()) N)) = ( ifp (!leInt m i) (idxOk i b.length ∧ ∃ x : Int, nth ((natOf i).mul 1) (b.flatMap Eu8.f) = some (AV.int .u8 x) ∧ (0 : Int) ≤ wrapF .i64 (Int.mul 8 i) ∧ True ∧ ∃ l, Wv Eu8 b l ∧ true = true ∧ N ((l, wrapF .u64 (Int.ofNat ((natOf (uns (modOf .u64) a)).lor (natOf (uns (modOf .u64) (shlV .u64 (wrapF .u64 x) (wrapF .i64 (Int.mul 8 i))))))), m, wrapF .i64 (i.add 1), ()), ())) (True ∧ true = true ∧ R0 ((b, a, m, i, ()), ()) (a, ()) ())) := by kernel_rfl
def uR2 : ofZ → Prop := fun ((b, a, m, i, ()), ()) => ∃ k w : Nat, i = k ∧ m = w ∧ k ≤ w ∧ w ≤ 8 ∧ w ≤ b.length ∧ uAe b ∧ a = ofV (b.take k)
def ofMu : ofZ → Nat := fun ((b, a, m, i, ()), ()) => m.toNat - i.toNat
def ofR0 : ofZ → uBj → (Unit) → Prop := fun ((b, a, m, i, ()), ()) (r, _) _ => r = ofV (b.take m.toNat)
noncomputable def ofC : LoopC := loopC 0 ofFs (uMs ofR0) uR2
theorem ofStep : stepsOk PP uBk 100 196 22 (loopBody PP 196 2) 0 false ofFs (uMs ofR0) uR2 ofMu ⟨_, _, ofSl, ofBl, fun x y => (x, y)⟩ := by
 intro x y hz
 obtain ⟨b, a, m, i, _⟩ := x
 obtain _ := y
 refine (ofForm b a m i _ _).mpr ?_
 obtain ⟨k, w, rfl, rfl, hk, hw, hb, hx, rfl⟩ := hz
 rw [ifp_lt]
 simp only [natOf_nat]
 split
 ·rename_i h
  have hkw : k < w := by omega
  have hkb : k < b.length := by omega
  rw [mul8 (by omega)]
  repeat first | refine ⟨Nat.le_refl _, ?_⟩ | rw [ifp_pos (roomy_small (by simp only [Nat.add_eq]; omega) (by decide))] | refine ⟨trivial, ?_⟩ | refine ⟨(rfl : true = true), ?_⟩ | refine ⟨idx_ok (by omega), ?_⟩ | refine ⟨idx_ok0 (by omega), ?_⟩ | refine ⟨_, nth_int (by omega), ?_⟩ | refine ⟨_, _, _, _, _, _, nth_lst (by omega), ?_⟩ | refine ⟨_, _, _, _, _, _, nth_lst0 (by omega), ?_⟩ | refine ⟨_, Wk.refl _, ?_⟩ | rw [ifp_pos rfl]
  refine ⟨by omega, trivial, b, Wk.refl _, by first | trivial | rfl, ?_⟩
  have hr := uDn (l := b.take k) (fun x hx' => hx x (List.mem_of_mem_take hx'))
  rw [show (b.take k).length = k by rw [List.length_take]; omega] at hr
  rw [or_byte hr (hx _ (List.getElem_mem hkb)) (by omega), wsucc (by omega)]
  refine ⟨⟨k + 1, w, rfl, rfl, hkw, hw, hb, hx, ?_⟩, by show w - (k + 1) < w - k; omega, fun _ _ h => h, trivial⟩
  rw [← List.take_append_getElem hkb, uEx, show (b.take k).length = k by rw [List.length_take]; omega]
 ·rename_i h
  repeat first | refine ⟨Nat.le_refl _, ?_⟩ | rw [ifp_pos (roomy_small (by simp only [Nat.add_eq]; omega) (by decide))] | refine ⟨trivial, ?_⟩ | refine ⟨(rfl : true = true), ?_⟩ | refine ⟨idx_ok (by omega), ?_⟩ | refine ⟨idx_ok0 (by omega), ?_⟩ | refine ⟨_, nth_int (by omega), ?_⟩ | refine ⟨_, _, _, _, _, _, nth_lst (by omega), ?_⟩ | refine ⟨_, _, _, _, _, _, nth_lst0 (by omega), ?_⟩ | refine ⟨_, Wk.refl _, ?_⟩ | rw [ifp_pos rfl]
  show ofV (b.take k) = ofV (b.take w)
  rw [show k = w by omega]
theorem ofOk : LoopOk PP 196 22 (.loop (loopBody PP 196 2)) (ofC) := loop_ok ofMu  mixed (KL_ok (cc_nil)) rfl (steps_cons ofStep (steps_nil))
noncomputable def ofT : Tel uAt := .cons 0 (.lst Eu8) (.nil)
theorem ofFn (b : List Int) (Q : AV → Prop) : (callW PP (runW PP (KL [] [(196, [(2, ofC)])]) 200) 196 (ofT.cells id (b, ())) (stE false) (fun x st => frzW st x Q)) = ( LoopOk PP 196 22 (loopBody PP 196 2).loop ofC ∧ True ∧ True ∧ ∃ l, Wv Eu8 b l ∧ true = true ∧ uR2 ((l, 0, ifb (leInt (Int.ofNat b.length) 8) (Int.ofNat b.length) 8, 0, ()), ()) ∧ (∀ c d, ofR0 ((l, 0, ifb (leInt (Int.ofNat b.length) 8) (Int.ofNat b.length) 8, 0, ()), ()) c d → Q (AV.int .u64 c.1)) ∧ True) := by kernel_rfl
def uFd : (List Int) × Unit → Prop := fun (b, ()) => uAe b ∧ b.length < 9223372036854775807
noncomputable def uTs : (List Int) × Unit → AV := fun (b, ()) => .int .u64 (ofB b)
noncomputable def ofK : CallC := valC ofT uFd uTs
theorem ofVal (b : List Int) (hp : uFd (b, ())) : Val PP 196 (ofT.cells id (b, ())) (uTs (b, ())) := by
 refine Val.ofF mixed (KL_ok (cc_nil)) (freesC rfl _) (ofFn b) ?_
 obtain ⟨hx, hl⟩ := hp
 refine ⟨ofOk, trivial, trivial, b, Wk.refl _, rfl, ?_⟩
 rw [ifb_le]
 split
 ·rename_i h
  simp at h
  refine ⟨⟨0, b.length, rfl, rfl, by omega, by omega, by omega, hx, rfl⟩, fun c _ hr => ?_, trivial⟩
  obtain ⟨r, _⟩ := c
  have hr' : r = ofV (b.take b.length) := hr
  exact tells_int (by show r = _; rw [hr', ofB, List.take_of_length_le (Nat.le_refl _), List.take_of_length_le (by omega)])
 ·rename_i h
  simp at h
  refine ⟨⟨0, 8, rfl, rfl, by omega, by omega, by omega, hx, rfl⟩, fun c _ hr => ?_, trivial⟩
  obtain ⟨r, _⟩ := c
  have hr' : r = ofV (b.take 8) := hr
  exact tells_int (by show r = _; rw [hr', ofB])
theorem ofCc : CcOk PP 196 ofK := val_ok rfl (fun ⟨b, _⟩ h => ofVal b h)
def s32 (n : Int) : Int := if n % 4294967296 < 2147483648 then n % 4294967296 else n % 4294967296 - 4294967296
theorem s32_eq {n : Int} (h : 0 ≤ n ∧ n < 18446744073709551616) : shrV .i64 (wrapF .i64 (shlV .u64 n 32)) 32 = s32 n := by
 have e1 : shlV .u64 n 32 = (n * 4294967296) % 18446744073709551616 := by
  show wrapF .u64 (Int.mul n 4294967296) = _
  rw [wrapF_eq]; rfl
 have e2 : ∀ z : Int, shrV .i64 z 32 = z / 4294967296 := fun z => by
  show Int.fdiv z 4294967296 = _
  exact Int.fdiv_eq_ediv_of_nonneg _ (by decide)
 rw [e1, e2, wrapF_eq]
 show (if (true && decide (n * 4294967296 % 18446744073709551616 % 18446744073709551616 ≥ 9223372036854775808)) = true then n * 4294967296 % 18446744073709551616 % 18446744073709551616 - 18446744073709551616 else n * 4294967296 % 18446744073709551616 % 18446744073709551616) / 4294967296 = _
 rw [Bool.true_and, s32]
 by_cases h1 : n * 4294967296 % 18446744073709551616 % 18446744073709551616 ≥ 9223372036854775808
 ·rw [if_pos (decide_eq_true h1), if_neg (by omega)]; omega
 ·rw [if_neg (by rw [decide_eq_false h1]; simp), if_pos (by omega)]; omega
noncomputable def sgnT : Tel (Int × Int × Unit) := .cons 0 (.int .u64) (.ji 1 (.nil))
theorem sgnFn (n w : Int) (Q : AV → Prop) : (callW PP (runW PP uBk 200) 195 (sgnT.cells id (n, w, ())) (stE false) (fun x st => frzW st x Q)) = ( ifp (!leInt 1 w) (Q (I64 0)) ((0 : Int) ≤ wrapF .i64 (Int.mul 8 (wrapF .i64 (Int.sub 8 (ifb (leInt w 8) w 8)))) ∧ (0 : Int) ≤ wrapF .i64 (Int.mul 8 (wrapF .i64 (Int.sub 8 (ifb (leInt w 8) w 8)))) ∧ Q (I64 (shrV .i64 (wrapF .i64 (shlV .u64 n (wrapF .i64 (Int.mul 8 (wrapF .i64 (Int.sub 8 (ifb true (ifb (leInt w 8) w 8) (ifb (leInt 8 w) w 8)))))))) (wrapF .i64 (Int.mul 8 (wrapF .i64 (Int.sub 8 (ifb true (ifb (leInt w 8) w 8) (ifb (leInt 8 w) w 8)))))))))) := by kernel_rfl
def uCa : Int × Int × Unit → Prop := fun (n, w, ()) => w = 4 ∧ 0 ≤ n ∧ n < 18446744073709551616
noncomputable def uQd : Int × Int × Unit → AV := fun (n, w, ()) => .int .i64 (s32 n)
noncomputable def sgnK : CallC := valC sgnT uCa uQd
theorem sgnVal (n : Int) (w : Int) (hp : uCa (n, w, ())) : Val PP 195 (sgnT.cells id (n, w, ())) (uQd (n, w, ())) := by
 refine Val.ofF mixed (KL_ok (cc_nil)) (freesC rfl _) (sgnFn n w) ?_
 obtain ⟨rfl, p1, p2⟩ := hp
 rw [ifp_lt, if_neg (by decide)]
 have e : wrapF .i64 (Int.mul 8 (wrapF .i64 (Int.sub 8 (ifb (leInt (4 : Int) 8) 4 8)))) = 32 := rfl
 rw [e]
 exact ⟨by decide, by decide, tells_int (s32_eq ⟨p1, p2⟩)⟩
theorem uRh : CcOk PP 195 sgnK := val_ok rfl (fun ⟨n, ⟨w, _⟩⟩ h => sgnVal n w h)
theorem uCi {p d len : Nat} (h : p + d ≤ len) (hl : len ≤ 4611686018427387904) : wrapF .i64 (Int.add (p : Int) (ifb (leInt (d : Int) (Int.ofNat (len.sub p))) (d : Int) (Int.ofNat (len.sub p)))) = ((p + d : Nat) : Int) := by
 rw [ifb_le, if_pos (by show (d : Int) ≤ ((len - p : Nat) : Int); omega), w64 (by show _ ≤ (p : Int) + d; omega) (by show (p : Int) + d < _; omega)]; rfl
theorem uCj {p d : Nat} (h : p + d ≤ 4611686018427387904) : wrapF .i64 (Int.add (p : Int) (d : Int)) = ((p + d : Nat) : Int) := by
 rw [w64 (by show _ ≤ (p : Int) + d; omega) (by show (p : Int) + d < _; omega)]; rfl
def uAc {α : Type} (d : Nat) (l : List α) (k : Nat) : List α := (l.drop (k * d)).take d
theorem uAv {α : Type} {d : Nat} {l : List α} {k : Nat} (h : k * d + d ≤ l.length) : (uAc d l k).length = d := by rw [uAc, List.length_take, List.length_drop]; omega
theorem uDb {α : Type} {E : Enc α} (he : E.e = 1) {l : List α} {p d : Nat} {x : Bool} : Wk (.vs (((l.flatMap E.f).drop (Nat.mul p 1)).take (Nat.mul ((p + d).sub p) 1)) ((p + d).sub p) ((p + d).sub p) x none 1) (lst E ((l.drop p).take d)) ∨ ¬ p + d ≤ l.length := by
 by_cases h : p + d ≤ l.length
 ·left
  refine wk_vs ⟨?_, ?_, he.symm⟩
  ·rw [show Nat.mul p 1 = p from Nat.mul_one p, show Nat.mul ((p + d).sub p) 1 = d by show ((p + d) - p) * 1 = d; omega, fdrop1 he, ftake1 he]
  ·show (p + d) - p = _; rw [List.length_take, List.length_drop]; omega
 ·exact .inr h
theorem uAw {α : Type} (f : Nat → α) (k : Nat) : (List.range (k + 1)).map f = (List.range k).map f ++ [f k] := by rw [List.range_succ, List.map_append]; rfl
theorem uAo (n : Int) : -2147483648 ≤ s32 n ∧ s32 n < 2147483648 := by unfold s32; split <;> omega
def num4 (b : List Int) (k : Nat) : Int := s32 (ofB (uAc 4 b k))
theorem uDo {b : List Int} (h : uAe b) : 0 ≤ ofB b ∧ ofB b < 18446744073709551616 := by
 have h1 := uDn (l := b.take 8) (fun x hx => h x (List.mem_of_mem_take hx))
 have h2 : (256 : Int) ^ (b.take 8).length ≤ 256 ^ 8 := by
  rw [← uFb, ← uFb]
  have : 256 ^ (b.take 8).length ≤ 256 ^ 8 := Nat.pow_le_pow_right (by decide) (by rw [List.length_take]; omega)
  omega
 have h3 : (256 : Int) ^ 8 = 18446744073709551616 := by decide
 exact ⟨h1.1, by rw [← h3]; exact Int.lt_of_lt_of_le h1.2 h2⟩
theorem uBe {b : List Int} (h : uAe b) (d k : Nat) : uAe (uAc d b k) := fun x hx => h x (List.mem_of_mem_drop (List.mem_of_mem_take hx))
abbrev uCz := Unit × Unit × Unit × Int × Unit
abbrev rdbZ := uCz × (uAg × Unit × uAt × uAt × uBj × Unit × Unit)
noncomputable def uRo : Tel uCz := .cons 0 (.yld 0) (.cons 1 (.ptr 3) (.cons 2 (.ptr 4) (.ji 4 (.nil))))
noncomputable abbrev uC0 := Bk.row (.ji 0 (.nil))
noncomputable abbrev uKs := Bk.row (.cons 0 (.lst Eu8) (.nil))
noncomputable def uRq : BTel (uAg × Unit × uAt × uAt × uBj × Unit × Unit) := .cons (.loop 132 58 [37] (rangeAs PP 132 8) (rangeBody PP 132 8) .ready none (.cons 8 (.ptr 2) (.nil)) 1) (.cons (.dfr) (.cons (.row (.cons 0 (.own Ei32 5) (.nil))) (.cons uKs (.cons uC0 (.cons (.spare) (.nil))))))
noncomputable def uL4 : Tel uCz := .cons 0 (.yld 0) (.cons 1 (.ptr 3) (.cons 2 (.ptr 4) (.ji 4 (.nil))))
noncomputable abbrev uKr := Bk.row (.cons 0 (.nilS) (.nil))
noncomputable def uL6 : BTel (uAg × Unit × uAg × uAt × uBj × Unit) := .cons (.loop 132 58 [37] (rangeAs PP 132 8) (rangeBody PP 132 8) .ready none (.cons 8 (.ptr 2) (.nil)) 1) (.cons (.dfr) (.cons uKr (.cons uKs (.cons uC0 (.nil)))))
noncomputable def uRn : uCz → (uAg × Unit × uAg × uAt × uBj × Unit) → rdbZ := fun ((), (), (), i, ()) (((), ()), (), ((), ()), (b, ()), (n, ()), ()) => (((), (), (), i, ()), ((), ()), (), ([], ()), (b, ()), (n, ()), (), ())
noncomputable def uL5 : List (LForm rdbZ) := [⟨_, _, uRo, uRq, fun x y => (x, y)⟩, ⟨_, _, uL4, uL6, uRn⟩]
abbrev uMi := uAg × Unit × ((List Int) × Unit) × ((List Int) × Unit) × uBj × Unit × Unit
abbrev uC6 := uAg × Unit × uAg × ((List Int) × Unit) × uBj × Unit
noncomputable def uDm (R0 : rdbZ → (Unit) → uMi → Prop) (R1 : rdbZ → (Unit) → uC6 → Prop) : List (Alt rdbZ) := [⟨.exit 0, Unit, uMi, .nil, .cons (.loop 132 58 [37] (rangeAs PP 132 8) (rangeBody PP 132 8) .ready none (.cons 8 (.ptr 2) (.nil)) 1) (.cons (.dfr) (.cons (.row (.cons 0 (.own Ei32 5) (.nil))) (.cons uKs (.cons uC0 (.cons (.spare) (.nil)))))), R0⟩, ⟨.exit 0, Unit, uC6, .nil, .cons (.loop 132 58 [37] (rangeAs PP 132 8) (rangeBody PP 132 8) .ready none (.cons 8 (.ptr 2) (.nil)) 1) (.cons (.dfr) (.cons uKr (.cons uKs (.cons uC0 (.nil))))), R1⟩]
noncomputable abbrev uKw := KL [(196, ofK), (195, sgnK)] []
theorem rdbForm (i : Int) (all b : List Int) (n : Int) (N : rdbZ → Prop) (R0 : rdbZ → (Unit) → uMi → Prop) (R1 : rdbZ → (Unit) → uC6 → Prop) : ((runW PP uKw 100).code none 241 31 (loopBody PP 241 1) (mkT (uRo.av id ((), (), (), i, ()))) [] (stL true (uRq.obs id (((), ()), (), (all, ()), (b, ()), (n, ()), (), ()))) (postL 5 uL5 (uDm R0 R1) (((), (), (), i, ()), ((), ()), (), (all, ()), (b, ()), (n, ()), (), ()) N)) = ( ifp (!leInt (Int.ofNat b.length) i) ((0 : Int) ≤ i ∧ i ≤ ↑b.length ∧ b.length ≤ b.length ∧ (b.flatMap Eu8.f).length = b.length.mul 1 ∧ True ∧ True ∧ True ∧ True ∧ (0 : Int) ≤ wrapF .i64 (i.add (ifb (leInt n (Int.ofNat (b.length.sub (natOf i)))) n (Int.ofNat (b.length.sub (natOf i))))) ∧ wrapF .i64 (i.add (ifb (leInt n (Int.ofNat (b.length.sub (natOf i)))) n (Int.ofNat (b.length.sub (natOf i))))) ≤ ↑b.length ∧ (0 : Int) ≤ wrapF .i64 (i.add (ifb (leInt n (Int.ofNat (b.length.sub (natOf i)))) n (Int.ofNat (b.length.sub (natOf i))))) ∧ wrapF .i64 (i.add (ifb (leInt n (Int.ofNat (b.length.sub (natOf i)))) n (Int.ofNat (b.length.sub (natOf i))))) ≤ ↑(natOf (wrapF .i64 (i.add (ifb true (ifb (leInt n (Int.ofNat (b.length.sub (natOf i)))) n (Int.ofNat (b.length.sub (natOf i)))) (ifb (leInt (Int.ofNat (b.length.sub (natOf i))) n) n (Int.ofNat (b.length.sub (natOf i)))))))) ∧ (0 : Int) ≤ i ∧ i ≤ ↑(natOf (wrapF .i64 (i.add (ifb true (ifb (leInt n (Int.ofNat (b.length.sub (natOf i)))) n (Int.ofNat (b.length.sub (natOf i)))) (ifb (leInt (Int.ofNat (b.length.sub (natOf i))) n) n (Int.ofNat (b.length.sub (natOf i)))))))) ∧ natOf (wrapF .i64 (i.add (ifb true (ifb (leInt n (Int.ofNat (b.length.sub (natOf i)))) n (Int.ofNat (b.length.sub (natOf i)))) (ifb (leInt (Int.ofNat (b.length.sub (natOf i))) n) n (Int.ofNat (b.length.sub (natOf i))))))) ≤ b.length ∧ (b.flatMap Eu8.f).length = b.length.mul 1 ∧ ∃ (l : List Int), Wk (AV.vs (List.take (((natOf (wrapF .i64 (i.add (ifb true (ifb (leInt n (Int.ofNat (b.length.sub (natOf i)))) n (Int.ofNat (b.length.sub (natOf i)))) (ifb (leInt (Int.ofNat (b.length.sub (natOf i))) n) n (Int.ofNat (b.length.sub (natOf i)))))))).sub (natOf i)).mul 1) (List.drop ((natOf i).mul 1) (b.flatMap Eu8.f))) ((natOf (wrapF .i64 (i.add (ifb true (ifb (leInt n (Int.ofNat (b.length.sub (natOf i)))) n (Int.ofNat (b.length.sub (natOf i)))) (ifb (leInt (Int.ofNat (b.length.sub (natOf i))) n) n (Int.ofNat (b.length.sub (natOf i)))))))).sub (natOf i)) ((natOf (wrapF .i64 (i.add (ifb true (ifb (leInt n (Int.ofNat (b.length.sub (natOf i)))) n (Int.ofNat (b.length.sub (natOf i)))) (ifb (leInt (Int.ofNat (b.length.sub (natOf i))) n) n (Int.ofNat (b.length.sub (natOf i)))))))).sub (natOf i)) (mxEx (some (I64 (wrapF .i64 (i.add (ifb true (ifb (leInt n (Int.ofNat (b.length.sub (natOf i)))) n (Int.ofNat (b.length.sub (natOf i)))) (ifb (leInt (Int.ofNat (b.length.sub (natOf i))) n) n (Int.ofNat (b.length.sub (natOf i))))))))) false) none 1) (lst Eu8 l) ∧ uFd (l, ()) ∧ uCa (ofB l, 4, ()) ∧ 1 ≤ 1 ∧ ifp (roomy (all.length.add 1) 4) ((AV.vs (all.flatMap Ei32.f) all.length all.length false (some 5) 1 = AV.vs (all.flatMap Ei32.f) all.length all.length false (some 5) 1 ∧ AV.vs (all.flatMap Ei32.f) all.length all.length false (some 5) 1 = AV.vs (all.flatMap Ei32.f) all.length all.length false (some 5) 1 ∧ True) ∧ True ∧ True ∧ ((True ∧ [37] = [37] ∧ rangeAs PP 132 8 = rangeAs PP 132 8 ∧ rangeBody PP 132 8 = rangeBody PP 132 8 ∧ ∃ (l_1 : List Int), (WkL (all.flatMap Ei32.f ++ [AV.int .i32 (wrapF .i32 (s32 (ofB l)))]) (l_1.flatMap Ei32.f) ∧ all.length.add 1 = l_1.length ∧ 1 = 1) ∧ ∃ l, Wv Eu8 b l ∧ true = true ∧ N (((), (), (), wrapF .i64 (i.add n), ()), ((), ()), (), (l_1, ()), (l, ()), (n, ()), (), ())) ∨ True ∧ [37] = [37] ∧ rangeAs PP 132 8 = rangeAs PP 132 8 ∧ rangeBody PP 132 8 = rangeBody PP 132 8 ∧ False)) False) ((True ∧ True ∧ [37] = [37] ∧ rangeAs PP 132 8 = rangeAs PP 132 8 ∧ rangeBody PP 132 8 = rangeBody PP 132 8 ∧ ∃ l, Ow Ei32 all l 1 ∧ ∃ l_1, Wv Eu8 b l_1 ∧ true = true ∧ R0 (((), (), (), i, ()), ((), ()), (), (all, ()), (b, ()), (n, ()), (), ()) () (((), ()), (), (l, ()), (l_1, ()), (n, ()), (), ())) ∨ True ∧ True ∧ [37] = [37] ∧ rangeAs PP 132 8 = rangeAs PP 132 8 ∧ rangeBody PP 132 8 = rangeBody PP 132 8 ∧ False)) := by kernel_rfl
theorem rdbForm0 (i : Int) (b : List Int) (n : Int) (N : rdbZ → Prop) (R0 : rdbZ → (Unit) → uMi → Prop) (R1 : rdbZ → (Unit) → uC6 → Prop) : ((runW PP uKw 100).code none 241 31 (loopBody PP 241 1) (mkT (uL4.av id ((), (), (), i, ()))) [] (stL true (uL6.obs id (((), ()), (), ((), ()), (b, ()), (n, ()), ()))) (postL 5 uL5 (uDm R0 R1) (uRn ((), (), (), i, ()) (((), ()), (), ((), ()), (b, ()), (n, ()), ())) N)) = ( ifp (!leInt (Int.ofNat b.length) i) ((0 : Int) ≤ i ∧ i ≤ ↑b.length ∧ b.length ≤ b.length ∧ (b.flatMap Eu8.f).length = b.length.mul 1 ∧ True ∧ True ∧ True ∧ True ∧ (0 : Int) ≤ wrapF .i64 (i.add (ifb (leInt n (Int.ofNat (b.length.sub (natOf i)))) n (Int.ofNat (b.length.sub (natOf i))))) ∧ wrapF .i64 (i.add (ifb (leInt n (Int.ofNat (b.length.sub (natOf i)))) n (Int.ofNat (b.length.sub (natOf i))))) ≤ ↑b.length ∧ (0 : Int) ≤ wrapF .i64 (i.add (ifb (leInt n (Int.ofNat (b.length.sub (natOf i)))) n (Int.ofNat (b.length.sub (natOf i))))) ∧ wrapF .i64 (i.add (ifb (leInt n (Int.ofNat (b.length.sub (natOf i)))) n (Int.ofNat (b.length.sub (natOf i))))) ≤ ↑(natOf (wrapF .i64 (i.add (ifb true (ifb (leInt n (Int.ofNat (b.length.sub (natOf i)))) n (Int.ofNat (b.length.sub (natOf i)))) (ifb (leInt (Int.ofNat (b.length.sub (natOf i))) n) n (Int.ofNat (b.length.sub (natOf i)))))))) ∧ (0 : Int) ≤ i ∧ i ≤ ↑(natOf (wrapF .i64 (i.add (ifb true (ifb (leInt n (Int.ofNat (b.length.sub (natOf i)))) n (Int.ofNat (b.length.sub (natOf i)))) (ifb (leInt (Int.ofNat (b.length.sub (natOf i))) n) n (Int.ofNat (b.length.sub (natOf i)))))))) ∧ natOf (wrapF .i64 (i.add (ifb true (ifb (leInt n (Int.ofNat (b.length.sub (natOf i)))) n (Int.ofNat (b.length.sub (natOf i)))) (ifb (leInt (Int.ofNat (b.length.sub (natOf i))) n) n (Int.ofNat (b.length.sub (natOf i))))))) ≤ b.length ∧ (b.flatMap Eu8.f).length = b.length.mul 1 ∧ ∃ (l : List Int), Wk (AV.vs (List.take (((natOf (wrapF .i64 (i.add (ifb true (ifb (leInt n (Int.ofNat (b.length.sub (natOf i)))) n (Int.ofNat (b.length.sub (natOf i)))) (ifb (leInt (Int.ofNat (b.length.sub (natOf i))) n) n (Int.ofNat (b.length.sub (natOf i)))))))).sub (natOf i)).mul 1) (List.drop ((natOf i).mul 1) (b.flatMap Eu8.f))) ((natOf (wrapF .i64 (i.add (ifb true (ifb (leInt n (Int.ofNat (b.length.sub (natOf i)))) n (Int.ofNat (b.length.sub (natOf i)))) (ifb (leInt (Int.ofNat (b.length.sub (natOf i))) n) n (Int.ofNat (b.length.sub (natOf i)))))))).sub (natOf i)) ((natOf (wrapF .i64 (i.add (ifb true (ifb (leInt n (Int.ofNat (b.length.sub (natOf i)))) n (Int.ofNat (b.length.sub (natOf i)))) (ifb (leInt (Int.ofNat (b.length.sub (natOf i))) n) n (Int.ofNat (b.length.sub (natOf i)))))))).sub (natOf i)) (mxEx (some (I64 (wrapF .i64 (i.add (ifb true (ifb (leInt n (Int.ofNat (b.length.sub (natOf i)))) n (Int.ofNat (b.length.sub (natOf i)))) (ifb (leInt (Int.ofNat (b.length.sub (natOf i))) n) n (Int.ofNat (b.length.sub (natOf i))))))))) false) none 1) (lst Eu8 l) ∧ uFd (l, ()) ∧ uCa (ofB l, 4, ()) ∧ 1 ≤ 1 ∧ (AV.nilSlice = AV.nilSlice ∧ AV.nilSlice = AV.nilSlice ∧ True) ∧ True ∧ True ∧ ((True ∧ [37] = [37] ∧ rangeAs PP 132 8 = rangeAs PP 132 8 ∧ rangeBody PP 132 8 = rangeBody PP 132 8 ∧ ∃ (l_1 : List Int), (WkL [AV.int .i32 (wrapF .i32 (s32 (ofB l)))] (l_1.flatMap Ei32.f) ∧ 1 = l_1.length ∧ 1 = 1) ∧ ∃ l, Wv Eu8 b l ∧ true = true ∧ N (((), (), (), wrapF .i64 (i.add n), ()), ((), ()), (), (l_1, ()), (l, ()), (n, ()), (), ())) ∨ True ∧ [37] = [37] ∧ rangeAs PP 132 8 = rangeAs PP 132 8 ∧ rangeBody PP 132 8 = rangeBody PP 132 8 ∧ False)) (True ∧ True ∧ [37] = [37] ∧ rangeAs PP 132 8 = rangeAs PP 132 8 ∧ rangeBody PP 132 8 = rangeBody PP 132 8 ∧ False ∨ True ∧ True ∧ [37] = [37] ∧ rangeAs PP 132 8 = rangeAs PP 132 8 ∧ rangeBody PP 132 8 = rangeBody PP 132 8 ∧ ∃ l, Wv Eu8 b l ∧ true = true ∧ R1 (((), (), (), i, ()), ((), ()), (), ([], ()), (b, ()), (n, ()), (), ()) () (((), ()), (), ((), ()), (l, ()), (n, ()), ()))) := by kernel_rfl
def uKf : rdbZ → Prop := fun (((), (), (), i, ()), ((), ()), (), (all, ()), (b, ()), (n, ()), (), ()) => ∃ k c : Nat, i = (k * 4 : Nat) ∧ n = (4 : Nat) ∧ b.length = c * 4 ∧ k ≤ c ∧ c ≤ 4194304 ∧ uAe b ∧ all = (List.range k).map (num4 b)
def uRp : rdbZ → Nat := fun (((), (), (), i, ()), ((), ()), (), (all, ()), (b, ()), (n, ()), (), ()) => b.length - i.toNat
def uPz : rdbZ → (Unit) → uMi → Prop := fun (((), (), (), i, ()), ((), ()), (), (all, ()), (b, ()), (n, ()), (), ()) _ (_, _, (r, _), _) => r = (List.range (b.length / 4)).map (num4 b)
def uPy : rdbZ → (Unit) → uC6 → Prop := fun (((), (), (), i, ()), ((), ()), (), (all, ()), (b, ()), (n, ()), (), ()) _ _ => b = []
noncomputable def rdbC : LoopC := loopC 5 uL5 (uDm uPz uPy) uKf
theorem rdbStep : stepsOk PP uKw 100 241 31 (loopBody PP 241 1) 5 true uL5 (uDm uPz uPy) uKf uRp ⟨_, _, uRo, uRq, fun x y => (x, y)⟩ := by
 intro x y hz
 obtain ⟨_, _, _, i, _⟩ := x
 obtain ⟨⟨_, _⟩, _, ⟨all, _⟩, ⟨b, _⟩, ⟨n, _⟩, _, _⟩ := y
 refine (rdbForm i all b n _ _ _).mpr ?_
 obtain ⟨k, c, rfl, rfl, hb, hk, hc, hx, rfl⟩ := hz
 rw [ifp_lt]
 simp only [natOf_nat, ifb_true]
 split
 ·rename_i h
  have hkc : k < c := by simp at h; omega
  have hp : k * 4 + 4 ≤ b.length := by omega
  simp only [uCi hp (by omega), natOf_nat]
  repeat (first
   | (refine And.intro trivial ?_)
   | (refine And.intro (Nat.le_refl _) ?_)
   | (refine And.intro (Enc.flen _ _) ?_)
   | (refine And.intro (by omega) ?_))
  have hr := uDo (uBe hx 4 k)
  have hr2 := uAo (ofB (uAc 4 b k))
  refine ⟨uAc 4 b k, (uDb (E := Eu8) rfl).resolve_right (by omega), ⟨uBe hx 4 k, by rw [uAv hp]; decide⟩, ⟨rfl, hr.1, hr.2⟩, Nat.le_refl _, ?_⟩
  rw [ifp_pos (roomy_small (by simp only [Nat.add_eq, List.length_map, List.length_range]; omega) (by decide)), uCj (by omega)]
  refine ⟨⟨by first | trivial | rfl, by first | trivial | rfl, trivial⟩, trivial, trivial, Or.inl ⟨trivial, by first | trivial | rfl, by first | trivial | rfl, by first | trivial | rfl, (List.range (k + 1)).map (num4 b), ⟨?_, ?_, by first | trivial | rfl⟩, b, Wk.refl _, by first | trivial | rfl, ?_⟩⟩
  ·rw [uAw]; exact wkl_snoc ⟨by rw [w32 hr2.1 hr2.2]; exact Wk.refl _, trivial⟩
  ·rw [uAw]; exact len_snoc
  ·exact ⟨⟨k + 1, c, by rw [Nat.succ_mul], rfl, hb, hkc, hc, hx, rfl⟩, by show b.length - (k * 4 + 4) < b.length - k * 4; omega, fun _ _ h => h, fun _ _ h => h, trivial⟩
 ·rename_i h
  have hkc : k = c := by simp at h; omega
  refine Or.inl ⟨trivial, trivial, by first | trivial | rfl, by first | trivial | rfl, by first | trivial | rfl, _, ⟨WkL.refl _, by first | trivial | rfl, by first | trivial | rfl⟩, b, Wk.refl _, by first | trivial | rfl, ?_⟩
  show (List.range k).map (num4 b) = (List.range (b.length / 4)).map (num4 b)
  rw [hb, hkc, Nat.mul_div_cancel _ (by decide)]
theorem rdbStep0 : stepsOk PP uKw 100 241 31 (loopBody PP 241 1) 5 true uL5 (uDm uPz uPy) uKf uRp ⟨_, _, uL4, uL6, uRn⟩ := by
 intro x y hz
 obtain ⟨_, _, _, i, _⟩ := x
 obtain ⟨⟨_, _⟩, _, ⟨_, _⟩, ⟨b, _⟩, ⟨n, _⟩, _⟩ := y
 refine (rdbForm0 i b n _ _ _).mpr ?_
 obtain ⟨k, c, rfl, rfl, hb, hk, hc, hx, h0⟩ := hz
 have hk0 : k = 0 := by have := congrArg List.length h0; simpa using this.symm
 subst hk0
 rw [ifp_lt]
 simp only [natOf_nat, ifb_true]
 split
 ·rename_i h
  have hkc : 0 < c := by simp at h; omega
  have hp : 0 * 4 + 4 ≤ b.length := by omega
  simp only [uCi hp (by omega), natOf_nat]
  repeat (first
   | (refine And.intro trivial ?_)
   | (refine And.intro (Nat.le_refl _) ?_)
   | (refine And.intro (Enc.flen _ _) ?_)
   | (refine And.intro (by omega) ?_))
  have hr := uDo (uBe hx 4 0)
  have hr2 := uAo (ofB (uAc 4 b 0))
  refine ⟨uAc 4 b 0, (uDb (E := Eu8) rfl).resolve_right (by omega), ⟨uBe hx 4 0, by rw [uAv hp]; decide⟩, ⟨rfl, hr.1, hr.2⟩, Nat.le_refl _, ?_⟩
  rw [uCj (by omega)]
  refine ⟨⟨by first | trivial | rfl, by first | trivial | rfl, trivial⟩, trivial, trivial, Or.inl ⟨trivial, by first | trivial | rfl, by first | trivial | rfl, by first | trivial | rfl, [num4 b 0], ⟨wkl_one ⟨by rw [w32 hr2.1 hr2.2]; exact Wk.refl _, trivial⟩, by first | trivial | rfl, by first | trivial | rfl⟩, b, Wk.refl _, by first | trivial | rfl, ?_⟩⟩
  exact ⟨⟨1, c, rfl, rfl, hb, hkc, hc, hx, rfl⟩, by show b.length - 4 < b.length - 0; omega, fun _ _ h => h, fun _ _ h => h, trivial⟩
 ·rename_i h
  have hkc : c = 0 := by simp only [Int.ofNat_eq_natCast] at h; omega
  refine Or.inr ⟨trivial, trivial, by first | trivial | rfl, by first | trivial | rfl, by first | trivial | rfl, b, Wk.refl _, by first | trivial | rfl, ?_⟩
  exact List.length_eq_zero_iff.1 (by omega)
theorem rdbOk : LoopOk PP 241 31 (.loop (loopBody PP 241 1)) (rdbC) := loop_ok uRp  mixed (KL_ok (cc_cons ofCc (cc_cons uRh (cc_nil)))) rfl (steps_cons rdbStep (steps_cons rdbStep0 (steps_nil)))
abbrev uB1 := uAt × (Unit)
noncomputable def uF0 : Tel uAt := .cons 0 (.lst Ei32) (.nil)
noncomputable def uD6 : BTel (Unit) := .nil
noncomputable def uCu (R0 : uB1 → uAt → uAg → Prop) : List (Res uB1) := [⟨(List Int) × Unit, Unit × Unit, .cons 0 (.own Ei32 0) (.nil), .cons (.spare) (.nil), R0⟩]
theorem clone32Fn (l : List Int) (R0 : uB1 → uAt → uAg → Prop) : (callW PP (runW PP uBk 200) 153 (uF0.cells id (l, ())) (stL true (uD6.obs id ())) (fun v st => resAny 0 ((l, ()), ()) v st (uCu R0))) = ( l.length ≠ 0 ∧ (l.flatMap Ei32.f).length = l.length.mul 1 ∧ ifp (allScalar (l.flatMap Ei32.f) && true) (ifp (roomy (Nat.add 0 l.length) 4) (∃ (l_1 : List Int), (WkL ([] ++ l.flatMap Ei32.f) (l_1.flatMap Ei32.f) ∧ Nat.add 0 l.length = l_1.length ∧ 1 = 1) ∧ true = true ∧ R0 ((l, ()), ()) (l_1, ()) ((), ())) False) False) := by kernel_rfl
def uB2 : uB1 → Prop := fun ((l, ()), ()) => 1 ≤ l.length ∧ l.length ≤ 1000000
def uCh : uB1 → uAt → uAg → Prop := fun ((l, ()), ()) (r, _) _ => r = l
noncomputable def uF1 : CallC := callC 0 uF0 uD6 uB2 (uCu uCh)
theorem clone32Step (z : uB1) (hp : uB2 z) : callW PP (runW PP uBk 200) 153 (uF0.cells id z.1) (stL true (uD6.obs id z.2)) (fun v st => resAny 0 z v st (uCu uCh)) := by
 obtain ⟨⟨l, _⟩, _⟩ := z
 refine (clone32Fn l _).mpr ?_
 obtain ⟨h1, h2⟩ := hp
 refine ⟨by omega, Enc.flen _ _, ?_⟩
 rw [ifp_pos (by rw [Enc.fscal Ei32]; rfl), ifp_pos (roomy_small (by simp only [Nat.add_eq]; omega) (by decide))]
 exact ⟨l, ⟨WkL.refl _, by show 0 + l.length = _; omega, rfl⟩, rfl, rfl⟩
theorem uG8 : CcOk PP 153 uF1 := call_ok mixed (KL_ok (cc_nil)) rfl clone32Step
theorem uG3 {k c d : Nat} (hd : 1 ≤ d) (h : k * d < c * d) : k < c := Nat.lt_of_mul_lt_mul_right h
theorem uDs {k c d : Nat} (h : k < c) : k * d + d ≤ c * d := by rw [← Nat.succ_mul]; exact Nat.mul_le_mul_right d h
theorem uJo {c d : Nat} (h1 : c ≤ 4096) (h2 : d ≤ 1024) : c * d ≤ 4194304 := Nat.mul_le_mul h1 h2
abbrev uQk := uAg × Unit × uKq × uAt × uBj × Unit × Unit
abbrev rdvZ := uCz × uQk
noncomputable def uRk : Tel uCz := .cons 0 (.yld 0) (.cons 1 (.ptr 3) (.cons 2 (.ptr 4) (.ji 4 (.nil))))
noncomputable abbrev uKt := Bk.row (.cons 0 (.lst Ei32) (.nil))
noncomputable def uRm : BTel uQk := .cons (.loop 132 58 [48] (rangeAs PP 132 12) (rangeBody PP 132 12) .ready none (.cons 10 (.ptr 2) (.nil)) 1) (.cons (.dfr) (.cons (.row (.cons 0 (.own Ell 5) (.nil))) (.cons uKt (.cons uC0 (.cons (.spare) (.nil))))))
noncomputable def uLz : Tel uCz := .cons 0 (.yld 0) (.cons 1 (.ptr 3) (.cons 2 (.ptr 4) (.ji 4 (.nil))))
noncomputable def uL3 : BTel uC6 := .cons (.loop 132 58 [48] (rangeAs PP 132 12) (rangeBody PP 132 12) .ready none (.cons 10 (.ptr 2) (.nil)) 1) (.cons (.dfr) (.cons uKr (.cons uKt (.cons uC0 (.nil)))))
noncomputable def uRj : uCz → uC6 → rdvZ := fun ((), (), (), i, ()) (((), ()), (), ((), ()), (l, ()), (n, ()), ()) => (((), (), (), i, ()), ((), ()), (), ([], ()), (l, ()), (n, ()), (), ())
noncomputable def uL2 : List (LForm rdvZ) := [⟨_, _, uRk, uRm, fun x y => (x, y)⟩, ⟨_, _, uLz, uL3, uRj⟩]
abbrev uMh := uAg × Unit × uKq × ((List Int) × Unit) × uBj × Unit × Unit
noncomputable def uDl (R0 : rdvZ → (Unit) → uMh → Prop) (R1 : rdvZ → (Unit) → uC6 → Prop) : List (Alt rdvZ) := [⟨.exit 0, Unit, uMh, .nil, .cons (.loop 132 58 [48] (rangeAs PP 132 12) (rangeBody PP 132 12) .ready none (.cons 10 (.ptr 2) (.nil)) 1) (.cons (.dfr) (.cons (.row (.cons 0 (.own Ell 5) (.nil))) (.cons uKt (.cons uC0 (.cons (.spare) (.nil)))))), R0⟩, ⟨.exit 0, Unit, uC6, .nil, .cons (.loop 132 58 [48] (rangeAs PP 132 12) (rangeBody PP 132 12) .ready none (.cons 10 (.ptr 2) (.nil)) 1) (.cons (.dfr) (.cons uKr (.cons uKt (.cons uC0 (.nil))))), R1⟩]
noncomputable abbrev uKv := KL [(153, uF1)] []
theorem rdvForm (i : Int) (out : List (List Int)) (l : List Int) (n : Int) (N : rdvZ → Prop) (R0 : rdvZ → (Unit) → uMh → Prop) (R1 : rdvZ → (Unit) → uC6 → Prop) : ((runW PP uKv 100).code none 242 31 (loopBody PP 242 1) (mkT (uRk.av id ((), (), (), i, ()))) [] (stL true (uRm.obs id (((), ()), (), (out, ()), (l, ()), (n, ()), (), ()))) (postL 5 uL2 (uDl R0 R1) (((), (), (), i, ()), ((), ()), (), (out, ()), (l, ()), (n, ()), (), ()) N)) = ( ifp (!leInt (Int.ofNat l.length) i) ((0 : Int) ≤ i ∧ i ≤ ↑l.length ∧ l.length ≤ l.length ∧ (l.flatMap Ei32.f).length = l.length.mul 1 ∧ True ∧ True ∧ True ∧ True ∧ (0 : Int) ≤ wrapF .i64 (i.add (ifb (leInt n (Int.ofNat (l.length.sub (natOf i)))) n (Int.ofNat (l.length.sub (natOf i))))) ∧ wrapF .i64 (i.add (ifb (leInt n (Int.ofNat (l.length.sub (natOf i)))) n (Int.ofNat (l.length.sub (natOf i))))) ≤ ↑l.length ∧ (0 : Int) ≤ wrapF .i64 (i.add (ifb (leInt n (Int.ofNat (l.length.sub (natOf i)))) n (Int.ofNat (l.length.sub (natOf i))))) ∧ wrapF .i64 (i.add (ifb (leInt n (Int.ofNat (l.length.sub (natOf i)))) n (Int.ofNat (l.length.sub (natOf i))))) ≤ ↑(natOf (wrapF .i64 (i.add (ifb true (ifb (leInt n (Int.ofNat (l.length.sub (natOf i)))) n (Int.ofNat (l.length.sub (natOf i)))) (ifb (leInt (Int.ofNat (l.length.sub (natOf i))) n) n (Int.ofNat (l.length.sub (natOf i)))))))) ∧ (0 : Int) ≤ i ∧ i ≤ ↑(natOf (wrapF .i64 (i.add (ifb true (ifb (leInt n (Int.ofNat (l.length.sub (natOf i)))) n (Int.ofNat (l.length.sub (natOf i)))) (ifb (leInt (Int.ofNat (l.length.sub (natOf i))) n) n (Int.ofNat (l.length.sub (natOf i)))))))) ∧ natOf (wrapF .i64 (i.add (ifb true (ifb (leInt n (Int.ofNat (l.length.sub (natOf i)))) n (Int.ofNat (l.length.sub (natOf i)))) (ifb (leInt (Int.ofNat (l.length.sub (natOf i))) n) n (Int.ofNat (l.length.sub (natOf i))))))) ≤ l.length ∧ (l.flatMap Ei32.f).length = l.length.mul 1 ∧ ∃ (l_1 : List Int), Wk (AV.vs (List.take (((natOf (wrapF .i64 (i.add (ifb true (ifb (leInt n (Int.ofNat (l.length.sub (natOf i)))) n (Int.ofNat (l.length.sub (natOf i)))) (ifb (leInt (Int.ofNat (l.length.sub (natOf i))) n) n (Int.ofNat (l.length.sub (natOf i)))))))).sub (natOf i)).mul 1) (List.drop ((natOf i).mul 1) (l.flatMap Ei32.f))) ((natOf (wrapF .i64 (i.add (ifb true (ifb (leInt n (Int.ofNat (l.length.sub (natOf i)))) n (Int.ofNat (l.length.sub (natOf i)))) (ifb (leInt (Int.ofNat (l.length.sub (natOf i))) n) n (Int.ofNat (l.length.sub (natOf i)))))))).sub (natOf i)) ((natOf (wrapF .i64 (i.add (ifb true (ifb (leInt n (Int.ofNat (l.length.sub (natOf i)))) n (Int.ofNat (l.length.sub (natOf i)))) (ifb (leInt (Int.ofNat (l.length.sub (natOf i))) n) n (Int.ofNat (l.length.sub (natOf i)))))))).sub (natOf i)) (mxEx (some (I64 (wrapF .i64 (i.add (ifb true (ifb (leInt n (Int.ofNat (l.length.sub (natOf i)))) n (Int.ofNat (l.length.sub (natOf i)))) (ifb (leInt (Int.ofNat (l.length.sub (natOf i))) n) n (Int.ofNat (l.length.sub (natOf i))))))))) false) none 1) (lst Ei32 l_1) ∧ true = true ∧ uB2 ((l_1, ()), ()) ∧ (∀ c d, uCh ((l_1, ()), ()) c d → 1 ≤ 1 ∧ ifp (roomy (out.length.add 1) 24) ((AV.vs (out.flatMap Ell.f) out.length out.length false (some 5) 1 = AV.vs (out.flatMap Ell.f) out.length out.length false (some 5) 1 ∧ True) ∧ True ∧ ((True ∧ [48] = [48] ∧ rangeAs PP 132 12 = rangeAs PP 132 12 ∧ rangeBody PP 132 12 = rangeBody PP 132 12 ∧ ∃ (l_2 : List (List Int)), (WkL (out.flatMap Ell.f ++ [AV.vs (List.flatMap Ei32.f c.1) c.1.length c.1.length false (some 19) 1]) (l_2.flatMap Ell.f) ∧ out.length.add 1 = l_2.length ∧ 1 = 1) ∧ ∃ l_3, Wv Ei32 l l_3 ∧ true = true ∧ N (((), (), (), wrapF .i64 (i.add n), ()), ((), ()), (), (l_2, ()), (l_3, ()), (n, ()), (), ())) ∨ True ∧ [48] = [48] ∧ rangeAs PP 132 12 = rangeAs PP 132 12 ∧ rangeBody PP 132 12 = rangeBody PP 132 12 ∧ False)) False) ∧ True) ((True ∧ True ∧ [48] = [48] ∧ rangeAs PP 132 12 = rangeAs PP 132 12 ∧ rangeBody PP 132 12 = rangeBody PP 132 12 ∧ ∃ l_1, Ow Ell out l_1 1 ∧ ∃ l_2, Wv Ei32 l l_2 ∧ true = true ∧ R0 (((), (), (), i, ()), ((), ()), (), (out, ()), (l, ()), (n, ()), (), ()) () (((), ()), (), (l_1, ()), (l_2, ()), (n, ()), (), ())) ∨ True ∧ True ∧ [48] = [48] ∧ rangeAs PP 132 12 = rangeAs PP 132 12 ∧ rangeBody PP 132 12 = rangeBody PP 132 12 ∧ False)) := by kernel_rfl
theorem rdvForm0 (i : Int) (l : List Int) (n : Int) (N : rdvZ → Prop) (R0 : rdvZ → (Unit) → uMh → Prop) (R1 : rdvZ → (Unit) → uC6 → Prop) : ((runW PP uKv 100).code none 242 31 (loopBody PP 242 1) (mkT (uLz.av id ((), (), (), i, ()))) [] (stL true (uL3.obs id (((), ()), (), ((), ()), (l, ()), (n, ()), ()))) (postL 5 uL2 (uDl R0 R1) (uRj ((), (), (), i, ()) (((), ()), (), ((), ()), (l, ()), (n, ()), ())) N)) = ( ifp (!leInt (Int.ofNat l.length) i) ((0 : Int) ≤ i ∧ i ≤ ↑l.length ∧ l.length ≤ l.length ∧ (l.flatMap Ei32.f).length = l.length.mul 1 ∧ True ∧ True ∧ True ∧ True ∧ (0 : Int) ≤ wrapF .i64 (i.add (ifb (leInt n (Int.ofNat (l.length.sub (natOf i)))) n (Int.ofNat (l.length.sub (natOf i))))) ∧ wrapF .i64 (i.add (ifb (leInt n (Int.ofNat (l.length.sub (natOf i)))) n (Int.ofNat (l.length.sub (natOf i))))) ≤ ↑l.length ∧ (0 : Int) ≤ wrapF .i64 (i.add (ifb (leInt n (Int.ofNat (l.length.sub (natOf i)))) n (Int.ofNat (l.length.sub (natOf i))))) ∧ wrapF .i64 (i.add (ifb (leInt n (Int.ofNat (l.length.sub (natOf i)))) n (Int.ofNat (l.length.sub (natOf i))))) ≤ ↑(natOf (wrapF .i64 (i.add (ifb true (ifb (leInt n (Int.ofNat (l.length.sub (natOf i)))) n (Int.ofNat (l.length.sub (natOf i)))) (ifb (leInt (Int.ofNat (l.length.sub (natOf i))) n) n (Int.ofNat (l.length.sub (natOf i)))))))) ∧ (0 : Int) ≤ i ∧ i ≤ ↑(natOf (wrapF .i64 (i.add (ifb true (ifb (leInt n (Int.ofNat (l.length.sub (natOf i)))) n (Int.ofNat (l.length.sub (natOf i)))) (ifb (leInt (Int.ofNat (l.length.sub (natOf i))) n) n (Int.ofNat (l.length.sub (natOf i)))))))) ∧ natOf (wrapF .i64 (i.add (ifb true (ifb (leInt n (Int.ofNat (l.length.sub (natOf i)))) n (Int.ofNat (l.length.sub (natOf i)))) (ifb (leInt (Int.ofNat (l.length.sub (natOf i))) n) n (Int.ofNat (l.length.sub (natOf i))))))) ≤ l.length ∧ (l.flatMap Ei32.f).length = l.length.mul 1 ∧ ∃ (l_1 : List Int), Wk (AV.vs (List.take (((natOf (wrapF .i64 (i.add (ifb true (ifb (leInt n (Int.ofNat (l.length.sub (natOf i)))) n (Int.ofNat (l.length.sub (natOf i)))) (ifb (leInt (Int.ofNat (l.length.sub (natOf i))) n) n (Int.ofNat (l.length.sub (natOf i)))))))).sub (natOf i)).mul 1) (List.drop ((natOf i).mul 1) (l.flatMap Ei32.f))) ((natOf (wrapF .i64 (i.add (ifb true (ifb (leInt n (Int.ofNat (l.length.sub (natOf i)))) n (Int.ofNat (l.length.sub (natOf i)))) (ifb (leInt (Int.ofNat (l.length.sub (natOf i))) n) n (Int.ofNat (l.length.sub (natOf i)))))))).sub (natOf i)) ((natOf (wrapF .i64 (i.add (ifb true (ifb (leInt n (Int.ofNat (l.length.sub (natOf i)))) n (Int.ofNat (l.length.sub (natOf i)))) (ifb (leInt (Int.ofNat (l.length.sub (natOf i))) n) n (Int.ofNat (l.length.sub (natOf i)))))))).sub (natOf i)) (mxEx (some (I64 (wrapF .i64 (i.add (ifb true (ifb (leInt n (Int.ofNat (l.length.sub (natOf i)))) n (Int.ofNat (l.length.sub (natOf i)))) (ifb (leInt (Int.ofNat (l.length.sub (natOf i))) n) n (Int.ofNat (l.length.sub (natOf i))))))))) false) none 1) (lst Ei32 l_1) ∧ true = true ∧ uB2 ((l_1, ()), ()) ∧ (∀ c d, uCh ((l_1, ()), ()) c d → 1 ≤ 1 ∧ (AV.nilSlice = AV.nilSlice ∧ True) ∧ True ∧ ((True ∧ [48] = [48] ∧ rangeAs PP 132 12 = rangeAs PP 132 12 ∧ rangeBody PP 132 12 = rangeBody PP 132 12 ∧ ∃ (l_2 : List (List Int)), (WkL [AV.vs (List.flatMap Ei32.f c.1) c.1.length c.1.length false (some 18) 1] (l_2.flatMap Ell.f) ∧ 1 = l_2.length ∧ 1 = 1) ∧ ∃ l_3, Wv Ei32 l l_3 ∧ true = true ∧ N (((), (), (), wrapF .i64 (i.add n), ()), ((), ()), (), (l_2, ()), (l_3, ()), (n, ()), (), ())) ∨ True ∧ [48] = [48] ∧ rangeAs PP 132 12 = rangeAs PP 132 12 ∧ rangeBody PP 132 12 = rangeBody PP 132 12 ∧ False)) ∧ True) (True ∧ True ∧ [48] = [48] ∧ rangeAs PP 132 12 = rangeAs PP 132 12 ∧ rangeBody PP 132 12 = rangeBody PP 132 12 ∧ False ∨ True ∧ True ∧ [48] = [48] ∧ rangeAs PP 132 12 = rangeAs PP 132 12 ∧ rangeBody PP 132 12 = rangeBody PP 132 12 ∧ ∃ l_1, Wv Ei32 l l_1 ∧ true = true ∧ R1 (((), (), (), i, ()), ((), ()), (), ([], ()), (l, ()), (n, ()), (), ()) () (((), ()), (), ((), ()), (l_1, ()), (n, ()), ()))) := by kernel_rfl
def uGx : rdvZ → Prop := fun (((), (), (), i, ()), ((), ()), (), (out, ()), (l, ()), (n, ()), (), ()) => ∃ k c d : Nat, i = (k * d : Nat) ∧ n = d ∧ l.length = c * d ∧ k ≤ c ∧ c ≤ 4096 ∧ 1 ≤ d ∧ d ≤ 1024 ∧ out = (List.range k).map (uAc d l)
def uRl : rdvZ → Nat := fun (((), (), (), i, ()), ((), ()), (), (out, ()), (l, ()), (n, ()), (), ()) => l.length - i.toNat
def uL1 : rdvZ → (Unit) → uMh → Prop := fun (((), (), (), i, ()), ((), ()), (), (out, ()), (l, ()), (n, ()), (), ()) _ (_, _, (r, _), _) => r = (List.range (l.length / n.toNat)).map (uAc n.toNat l)
def uL0 : rdvZ → (Unit) → uC6 → Prop := fun (((), (), (), i, ()), ((), ()), (), (out, ()), (l, ()), (n, ()), (), ()) _ _ => l = []
noncomputable def rdvC : LoopC := loopC 5 uL2 (uDl uL1 uL0) uGx
theorem rdvStep : stepsOk PP uKv 100 242 31 (loopBody PP 242 1) 5 true uL2 (uDl uL1 uL0) uGx uRl ⟨_, _, uRk, uRm, fun x y => (x, y)⟩ := by
 intro x y hz
 obtain ⟨_, _, _, i, _⟩ := x
 obtain ⟨⟨_, _⟩, _, ⟨out, _⟩, ⟨l, _⟩, ⟨n, _⟩, _, _⟩ := y
 refine (rdvForm i out l n _ _ _).mpr ?_
 obtain ⟨k, c, d, rfl, rfl, hb, hk, hc, h1, hd, rfl⟩ := hz
 have hbig := uJo hc hd
 rw [ifp_lt]
 simp only [natOf_nat, ifb_true]
 split
 ·rename_i h
  have hkc : k < c := uG3 h1 (by simp at h; omega)
  have hp : k * d + d ≤ l.length := by rw [hb]; exact uDs hkc
  simp only [uCi hp (by omega), natOf_nat]
  repeat (first
   | (refine And.intro trivial ?_)
   | (refine And.intro (Nat.le_refl _) ?_)
   | (refine And.intro (Enc.flen _ _) ?_)
   | (refine And.intro (by omega) ?_))
  refine ⟨uAc d l k, (uDb (E := Ei32) rfl).resolve_right (by omega), by first | trivial | rfl, ⟨by rw [uAv hp]; omega, by rw [uAv hp]; omega⟩, fun x _ hr => ⟨Nat.le_refl _, ?_⟩, trivial⟩
  have hr' : x.1 = uAc d l k := hr
  rw [ifp_pos (roomy_small (by simp only [Nat.add_eq, List.length_map, List.length_range]; omega) (by decide)), uCj (by omega), hr']
  refine ⟨⟨by first | trivial | rfl, trivial⟩, trivial, Or.inl ⟨trivial, by first | trivial | rfl, by first | trivial | rfl, by first | trivial | rfl, (List.range (k + 1)).map (uAc d l), ⟨?_, ?_, by first | trivial | rfl⟩, l, Wk.refl _, by first | trivial | rfl, ?_⟩⟩
  ·rw [uAw]; exact wkl_snoc ⟨wk_of_own, trivial⟩
  ·rw [uAw]; exact len_snoc
  ·exact ⟨⟨k + 1, c, d, by rw [Nat.succ_mul], rfl, hb, hkc, hc, h1, hd, rfl⟩, by show l.length - (k * d + d) < l.length - k * d; omega, fun _ _ h => h, fun _ _ h => h, trivial⟩
 ·rename_i h
  have hkc : k = c := by
   refine Nat.le_antisymm hk (Nat.le_of_not_lt fun hlt => ?_)
   have := uDs (d := d) hlt
   simp at h; omega
  refine Or.inl ⟨trivial, trivial, by first | trivial | rfl, by first | trivial | rfl, by first | trivial | rfl, _, ⟨WkL.refl _, by first | trivial | rfl, by first | trivial | rfl⟩, l, Wk.refl _, by first | trivial | rfl, ?_⟩
  show (List.range k).map (uAc d l) = (List.range (l.length / d)).map (uAc d l)
  rw [hb, hkc, Nat.mul_div_cancel _ h1]
theorem rdvStep0 : stepsOk PP uKv 100 242 31 (loopBody PP 242 1) 5 true uL2 (uDl uL1 uL0) uGx uRl ⟨_, _, uLz, uL3, uRj⟩ := by
 intro x y hz
 obtain ⟨_, _, _, i, _⟩ := x
 obtain ⟨⟨_, _⟩, _, ⟨_, _⟩, ⟨l, _⟩, ⟨n, _⟩, _⟩ := y
 refine (rdvForm0 i l n _ _ _).mpr ?_
 obtain ⟨k, c, d, rfl, rfl, hb, hk, hc, h1, hd, h0⟩ := hz
 have hk0 : k = 0 := by have := congrArg List.length h0; simpa using this.symm
 subst hk0
 have hbig := uJo hc hd
 rw [ifp_lt]
 simp only [natOf_nat, ifb_true]
 split
 ·rename_i h
  have hkc : 0 < c := uG3 h1 (by simp only [Int.ofNat_eq_natCast] at h; omega)
  have hp : 0 * d + d ≤ l.length := by rw [hb]; exact uDs hkc
  simp only [uCi hp (by omega), natOf_nat]
  repeat (first
   | (refine And.intro trivial ?_)
   | (refine And.intro (Nat.le_refl _) ?_)
   | (refine And.intro (Enc.flen _ _) ?_)
   | (refine And.intro (by omega) ?_))
  refine ⟨uAc d l 0, (uDb (E := Ei32) rfl).resolve_right (by omega), by first | trivial | rfl, ⟨by rw [uAv hp]; omega, by rw [uAv hp]; omega⟩, fun x _ hr => ⟨Nat.le_refl _, ?_⟩, trivial⟩
  have hr' : x.1 = uAc d l 0 := hr
  rw [uCj (by omega), hr']
  refine ⟨⟨by first | trivial | rfl, trivial⟩, trivial, Or.inl ⟨trivial, by first | trivial | rfl, by first | trivial | rfl, by first | trivial | rfl, [uAc d l 0], ⟨wkl_one ⟨wk_of_own, trivial⟩, by first | trivial | rfl, by first | trivial | rfl⟩, l, Wk.refl _, by first | trivial | rfl, ?_⟩⟩
  exact ⟨⟨1, c, d, by rw [Nat.zero_mul, Nat.zero_add, Nat.one_mul], rfl, hb, hkc, hc, h1, hd, rfl⟩, by show l.length - (0 * d + d) < l.length - 0 * d; omega, fun _ _ h => h, fun _ _ h => h, trivial⟩
 ·rename_i h
  have hkc : l.length = 0 := by simp only [Int.ofNat_eq_natCast] at h; omega
  refine Or.inr ⟨trivial, trivial, by first | trivial | rfl, by first | trivial | rfl, by first | trivial | rfl, l, Wk.refl _, by first | trivial | rfl, ?_⟩
  exact List.length_eq_zero_iff.1 hkc
theorem rdvOk : LoopOk PP 242 31 (.loop (loopBody PP 242 1)) (rdvC) := loop_ok uRl  mixed (KL_ok (cc_cons uG8 (cc_nil))) rfl (steps_cons rdvStep (steps_cons rdvStep0 (steps_nil)))
def uEn (b : List Int) (c d : Nat) : List (List Int) := (List.range c).map (uAc d ((List.range (c * d)).map (num4 b)))
def uAy (b : List Int) (n d : Int) : List (List Int) × Int :=
 if n < 1 ∨ 4096 < n ∨ d < 1 ∨ 1024 < d then ([], 2) else if b.length ≠ n.toNat * d.toNat * 4 then ([], 4) else if uAk (uEn b n.toNat d.toNat) = 0 then (uEn b n.toNat d.toNat, 0) else ([], 4)
theorem four_mul {N D : Nat} (h : N * D ≤ 4194304) (hN : N ≤ 4096) : wrapF .i64 (Int.mul (wrapF .i64 (Int.mul 4 (N : Int))) (D : Int)) = ((N * D * 4 : Nat) : Int) := by
 have e1 : Int.mul 4 (N : Int) = ((4 * N : Nat) : Int) := rfl
 have e2 : Int.mul ((4 * N : Nat) : Int) (D : Int) = ((4 * N * D : Nat) : Int) := rfl
 have e3 : wrapF .i64 (Int.mul 4 (N : Int)) = ((4 * N : Nat) : Int) := by rw [e1, w64 (by omega) (by omega)]
 rw [e3, e2, show 4 * N * D = N * D * 4 by rw [Nat.mul_assoc, Nat.mul_comm], w64 (by omega) (by omega)]
theorem readV_bad {b : List Int} {n d : Int} (h : n < 1 ∨ 4096 < n ∨ d < 1 ∨ 1024 < d) : uAy b n d = ([], 2) := by rw [uAy, if_pos h]
theorem read_len {b : List Int} {N D : Nat} (h : b.length = N * D * 4) (hD : 1 ≤ D) : (List.range (((List.range (b.length / 4)).map (num4 b)).length / D)).map (uAc D ((List.range (b.length / 4)).map (num4 b))) = uEn b N D := by
 rw [h, Nat.mul_div_cancel _ (by decide), List.length_map, List.length_range, Nat.mul_div_cancel _ hD]; rfl
noncomputable def uRi : Tel ((List Int) × Int × Int × Unit) := .cons 0 (.lst Eu8) (.ji 1 (.ji 2 (.nil)))
theorem readFn (b : List Int) (n d : Int) (Q : AV → Prop) : (callW PP (runW PP (KL [(137, uLb), (196, ofK), (195, sgnK), (153, uF1)] [(241, [(1, rdbC)]), (242, [(1, rdvC)])]) 200) 132 (uRi.cells id (b, n, d, ())) (stE true) (fun x st => frzW st x Q)) = ( ifp (!leInt 1 n) (Q (AV.tuple [AV.nilSlice, I64 2])) (ifp (!leInt n 4096) (Q (AV.tuple [AV.nilSlice, I64 2])) (ifp (!leInt 1 d) (Q (AV.tuple [AV.nilSlice, I64 2])) (ifp (!leInt d 1024) (Q (AV.tuple [AV.nilSlice, I64 2])) (ifp (!eqInt (Int.ofNat b.length) (wrapF .i64 ((wrapF .i64 (Int.mul 4 n)).mul d))) (Q (AV.tuple [AV.nilSlice, I64 4])) (LoopOk PP 241 31 (loopBody PP 241 1).loop rdbC ∧ True ∧ True ∧ (True ∧ [37] = [37] ∧ rangeAs PP 132 8 = rangeAs PP 132 8 ∧ rangeBody PP 132 8 = rangeBody PP 132 8 ∧ False ∨ True ∧ [37] = [37] ∧ rangeAs PP 132 8 = rangeAs PP 132 8 ∧ rangeBody PP 132 8 = rangeBody PP 132 8 ∧ ∃ l, Wv Eu8 b l ∧ true = true ∧ uKf (((), (), (), 0, ()), ((), ()), (), ([], ()), (l, ()), (4, ()), (), ()) ∧ (∀ c d_1, uPz (((), (), (), 0, ()), ((), ()), (), ([], ()), (l, ()), (4, ()), (), ()) c d_1 → ifp (!leInt 1 d) False (LoopOk PP 242 31 (loopBody PP 242 1).loop rdvC ∧ True ∧ True ∧ (True ∧ [48] = [48] ∧ rangeAs PP 132 12 = rangeAs PP 132 12 ∧ rangeBody PP 132 12 = rangeBody PP 132 12 ∧ False ∨ True ∧ [48] = [48] ∧ rangeAs PP 132 12 = rangeAs PP 132 12 ∧ rangeBody PP 132 12 = rangeBody PP 132 12 ∧ ∃ (l : List Int), Wk (AV.vs (List.flatMap Ei32.f d_1.2.2.1.1) d_1.2.2.1.1.length d_1.2.2.1.1.length false (some 5) 1) (lst Ei32 l) ∧ true = true ∧ uGx (((), (), (), 0, ()), ((), ()), (), ([], ()), (l, ()), (d, ()), (), ()) ∧ (∀ c d_2, uL1 (((), (), (), 0, ()), ((), ()), (), ([], ()), (l, ()), (d, ()), (), ()) c d_2 → ∃ (l : List (List Int)), Wk (AV.vs (List.flatMap Ell.f d_2.2.2.1.1) d_2.2.2.1.1.length d_2.2.2.1.1.length false (some 11) 1) (lst Ell l) ∧ uA5 (l, ()) ∧ ifp (!eqInt (uAk l) 0) (Q (AV.tuple [AV.nilSlice, I64 4])) (Q (AV.tuple [AV.vs (List.flatMap Ell.f d_2.2.2.1.1) d_2.2.2.1.1.length d_2.2.2.1.1.length false (some 11) 1, I64 0]))) ∧ (∀ c d_2, uL0 (((), (), (), 0, ()), ((), ()), (), ([], ()), (l, ()), (d, ()), (), ()) c d_2 → ∃ (l : List (List Int)), Wk AV.nilSlice (lst Ell l) ∧ uA5 (l, ()) ∧ ifp (!eqInt (uAk l) 0) (Q (AV.tuple [AV.nilSlice, I64 4])) (Q (AV.tuple [AV.nilSlice, I64 0]))) ∧ True))) ∧ (∀ c d_1, uPy (((), (), (), 0, ()), ((), ()), (), ([], ()), (l, ()), (4, ()), (), ()) c d_1 → ifp (!leInt 1 d) False (LoopOk PP 242 31 (loopBody PP 242 1).loop rdvC ∧ True ∧ True ∧ (True ∧ [48] = [48] ∧ rangeAs PP 132 12 = rangeAs PP 132 12 ∧ rangeBody PP 132 12 = rangeBody PP 132 12 ∧ False ∨ True ∧ [48] = [48] ∧ rangeAs PP 132 12 = rangeAs PP 132 12 ∧ rangeBody PP 132 12 = rangeBody PP 132 12 ∧ ∃ (l : List Int), Wk AV.nilSlice (lst Ei32 l) ∧ true = true ∧ uGx (((), (), (), 0, ()), ((), ()), (), ([], ()), (l, ()), (d, ()), (), ()) ∧ (∀ c d_2, uL1 (((), (), (), 0, ()), ((), ()), (), ([], ()), (l, ()), (d, ()), (), ()) c d_2 → ∃ (l : List (List Int)), Wk (AV.vs (List.flatMap Ell.f d_2.2.2.1.1) d_2.2.2.1.1.length d_2.2.2.1.1.length false (some 10) 1) (lst Ell l) ∧ uA5 (l, ()) ∧ ifp (!eqInt (uAk l) 0) (Q (AV.tuple [AV.nilSlice, I64 4])) (Q (AV.tuple [AV.vs (List.flatMap Ell.f d_2.2.2.1.1) d_2.2.2.1.1.length d_2.2.2.1.1.length false (some 10) 1, I64 0]))) ∧ (∀ c d_2, uL0 (((), (), (), 0, ()), ((), ()), (), ([], ()), (l, ()), (d, ()), (), ()) c d_2 → ∃ (l : List (List Int)), Wk AV.nilSlice (lst Ell l) ∧ uA5 (l, ()) ∧ ifp (!eqInt (uAk l) 0) (Q (AV.tuple [AV.nilSlice, I64 4])) (Q (AV.tuple [AV.nilSlice, I64 0]))) ∧ True))) ∧ True))))))) := by kernel_rfl
def uHk : (List Int) × Int × Int × Unit → Prop := fun (b, n, d, ()) => uAe b
noncomputable def uLy : (List Int) × Int × Int × Unit → AV := fun (b, n, d, ()) => .tuple [lst Ell (uAy b n d).1, .int .i64 (uAy b n d).2]
noncomputable def uTj : CallC := valC uRi uHk uLy
theorem readVal (b : List Int) (n : Int) (d : Int) (hp : uHk (b, n, d, ())) : Val PP 132 (uRi.cells id (b, n, d, ())) (uLy (b, n, d, ())) := by
 refine Val.ofF mixed (KL_ok (cc_cons uIq (cc_cons ofCc (cc_cons uRh (cc_cons uG8 (cc_nil)))))) (freesC rfl _) (readFn b n d) ?_
 have bad : n < 1 ∨ 4096 < n ∨ d < 1 ∨ 1024 < d → Tells (.tuple [.nilSlice, .int .i64 2]) (.tuple [lst Ell (uAy b n d).1, .int .i64 (uAy b n d).2]) := fun h => by
  rw [readV_bad h]; exact tells_tuple ⟨tells_nil _, tells_int rfl, trivial⟩
 rw [ifp_lt]; split
 ·exact bad (by omega)
 rw [ifp_lt]; split
 ·exact bad (by omega)
 rw [ifp_lt]; split
 ·exact bad (by omega)
 rw [ifp_lt]; split
 ·exact bad (by omega)
 obtain ⟨N, rfl⟩ := Int.eq_ofNat_of_zero_le (show 0 ≤ n by omega)
 obtain ⟨D, rfl⟩ := Int.eq_ofNat_of_zero_le (show 0 ≤ d by omega)
 have hND : N * D ≤ 4194304 := uJo (by omega) (by omega)
 have h1 : 1 ≤ N * D := Nat.mul_pos (by omega) (by omega)
 have ev : uAy b (N : Int) (D : Int) = if b.length ≠ N * D * 4 then ([], 4) else if uAk (uEn b N D) = 0 then (uEn b N D, 0) else ([], 4) := by
  rw [uAy, if_neg (by omega)]; rfl
 rw [four_mul hND (by omega), ifp_ne]
 split
 ·rename_i h
  have hl : b.length = N * D * 4 := by simp only [Int.ofNat_eq_natCast] at h; omega
  rw [if_neg (by omega)] at ev
  refine ⟨rdbOk, trivial, trivial, Or.inr ⟨by first | trivial | rfl, by first | trivial | rfl, by first | trivial | rfl, by first | trivial | rfl, b, Wk.refl _, rfl, ⟨0, N * D, rfl, rfl, hl, by omega, hND, hp, rfl⟩, fun _ x hr => ?_, fun _ _ hr => ?_, trivial⟩⟩
  ·obtain ⟨_, _, ⟨r, _⟩, _⟩ := x
   have hr' : r = (List.range (b.length / 4)).map (num4 b) := hr
   have hrl : r.length = N * D := by rw [hr', List.length_map, List.length_range, hl, Nat.mul_div_cancel _ (by decide)]
   rw [ifp_lt, if_neg (by omega)]
   refine ⟨rdvOk, trivial, trivial, Or.inr ⟨by first | trivial | rfl, by first | trivial | rfl, by first | trivial | rfl, by first | trivial | rfl, r, wk_of_own, rfl, ⟨0, N, D, by rw [Nat.zero_mul]; rfl, rfl, hrl, by omega, by omega, by omega, by omega, rfl⟩, fun _ y hs => ?_, fun _ _ hs => ?_, trivial⟩⟩
   ·obtain ⟨_, _, ⟨s, _⟩, _⟩ := y
    have hs' : s = uEn b N D := by
     have : s = (List.range (r.length / D)).map (uAc D r) := hs
     rw [this, hr', read_len hl (by omega)]
    refine ⟨s, wk_of_own, trivial, ?_⟩
    rw [← hs'] at ev
    rw [ifp_ne]
    split
    ·rename_i hc
     rw [if_pos hc] at ev
     show Tells _ (.tuple [lst Ell (uAy b N D).1, .int .i64 (uAy b N D).2])
     rw [ev]; exact tells_tuple ⟨tells_own, tells_int rfl, trivial⟩
    ·rename_i hc
     rw [if_neg hc] at ev
     show Tells _ (.tuple [lst Ell (uAy b N D).1, .int .i64 (uAy b N D).2])
     rw [ev]; exact tells_tuple ⟨tells_nil _, tells_int rfl, trivial⟩
   ·have hs' : r = [] := hs
    rw [hs'] at hrl; simp at hrl; omega
  ·have hr' : b = [] := hr
   rw [hr'] at hl; simp at hl; omega
 ·rename_i h
  rw [if_pos (by simp only [Int.ofNat_eq_natCast] at h; omega)] at ev
  show Tells _ (.tuple [lst Ell (uAy b N D).1, .int .i64 (uAy b N D).2])
  rw [ev]; exact tells_tuple ⟨tells_nil _, tells_int rfl, trivial⟩
theorem readCc : CcOk PP 132 uTj := val_ok rfl (fun ⟨b, ⟨n, ⟨d, _⟩⟩⟩ h => readVal b n d h)
end Go.Proofs.YtcnnjlhecndhnaaGreat
namespace Go.Proofs.YtcnnjlhecndhnaaGreat
open Go.Det Go.RowKit
set_option maxRecDepth 100000
abbrev Cf := Int × Int × Int × Int × Int × Int × Int × Int × Unit
abbrev Ecf : Enc Cf := Enc.pair (Enc.int .i64) (Enc.pair (Enc.int .i64) (Enc.pair (Enc.int .i64) (Enc.pair (Enc.int .i64) (Enc.pair (Enc.int .i64) (Enc.pair (Enc.int .i64) (Enc.pair (Enc.int .i64) (Enc.pair (Enc.int .i64) Enc.unit)))))))
def inB (n a b : Int) : Bool := decide (a ≤ n) && decide (n ≤ b)
theorem uFj {n a b : Int} : inB n a b = true ↔ a ≤ n ∧ n ≤ b := by simp [inB]
theorem uBl {a b A B : Int} (h1 : 0 ≤ a) (h2 : a ≤ A) (h3 : 0 ≤ b) (h4 : b ≤ B) : 0 ≤ a * b ∧ a * b ≤ A * B := ⟨Int.mul_nonneg h1 h3, Int.mul_le_mul h2 h4 h3 (by omega)⟩
def sizedB (c : Cf) : Bool := inB c.1 1 1024 && (inB c.2.2.2.1 1 4096 && (inB c.2.2.1 1 256 && inB c.2.2.2.2.1 1 16777216))
theorem uA2 {c : Cf} : sizedB c = true ↔ (1 ≤ c.1 ∧ c.1 ≤ 1024) ∧ (1 ≤ c.2.2.2.1 ∧ c.2.2.2.1 ≤ 4096) ∧ (1 ≤ c.2.2.1 ∧ c.2.2.1 ≤ 256) ∧ (1 ≤ c.2.2.2.2.1 ∧ c.2.2.2.2.1 ≤ 16777216) := by simp [sizedB, inB]
def iszV (c : Cf) : Int := if sizedB c = true then 4 * c.1 * (c.2.2.2.1 + c.2.2.1) else 0
def fszV (n : Int) : Int := if n < 0 ∨ 33554432 < n then 0 else 8 + n
def bszV (c : Cf) (p x : Int) : Int := if sizedB c = true ∧ (0 ≤ p ∧ p ≤ c.2.2.2.2.1) ∧ (x = 0 ∨ x = iszV c) then 58 + p * (16 + 2 * c.1) + (if 0 < x then 9 + x else 0) else 0
def rsvV (c : Cf) : Int := bszV c c.2.2.2.2.1 (iszV c)
def cfgB (c : Cf) : Bool := sizedB c && (decide (1 ≤ c.2.1) && (decide (Int.tmod c.1 (max 1 c.2.1) = 0) && (inB c.2.2.2.2.2.1 1 64 && inB c.2.2.2.2.2.2.1 2 4096)))
def cfgE (c : Cf) : Int := if cfgB c = true ∧ bszV c 0 0 + rsvV c ≤ c.2.2.2.2.2.2.2.1 ∧ c.2.2.2.2.2.2.2.1 ≤ 1099511627776 then 0 else 2
theorem uDt (c : Cf) : 0 ≤ iszV c ∧ iszV c ≤ 17825792 := by
 rw [iszV]; split
 ·rename_i h
  obtain ⟨h1, h2, h3, h4⟩ := uA2.1 h
  have := uBl (a := 4 * c.1) (A := 4096) (b := c.2.2.2.1 + c.2.2.1) (B := 4352) (by omega) (by omega) (by omega) (by omega)
  omega
 ·omega
theorem uG9 (c : Cf) (p x : Int) : 0 ≤ bszV c p x ∧ bszV c p x ≤ 34661728256 := by
 rw [bszV]; split
 ·rename_i h
  obtain ⟨hs, hp, hx⟩ := h
  obtain ⟨h1, h2, h3, h4⟩ := uA2.1 hs
  have := uBl (a := p) (A := 16777216) (b := 16 + 2 * c.1) (B := 2064) (by omega) (by omega) (by omega) (by omega)
  have := uDt c
  split <;> omega
 ·omega
noncomputable def binT : Tel (Int × Int × Int × Unit) := .ji 0 (.ji 1 (.ji 2 (.nil)))
theorem binFn (n a b : Int) (Q : AV → Prop) : (callW PP (runW PP (KL [] []) 200) 191 (binT.cells id (n, a, b, ())) (stE false) (fun x st => frzW st x Q)) = ( ifp (leInt a n) (ifp (leInt n b) (Q (AV.bool true)) (Q (AV.bool false))) (Q (AV.bool false))) := by kernel_rfl
def uCm : Int × Int × Int × Unit → Prop := fun (n, a, b, ()) => True
noncomputable def uRe : Int × Int × Int × Unit → AV := fun (n, a, b, ()) => .bool (inB n a b)
noncomputable def binK : CallC := valC binT uCm uRe
theorem binVal (n : Int) (a : Int) (b : Int) (hp : uCm (n, a, b, ())) : Val PP 191 (binT.cells id (n, a, b, ())) (uRe (n, a, b, ())) := by
 refine Val.ofF mixed (KL_ok (cc_nil)) (freesC rfl _) (binFn n a b) ?_
 rw [ifp_le, ifp_le]
 split
 ·rename_i h1
  split
  ·rename_i h2; exact tells_bool (uFj.2 ⟨h1, h2⟩).symm
  ·rename_i h2; exact tells_bool (by simp [inB, h2])
 ·rename_i h1; exact tells_bool (by simp [inB, h1])
theorem uS6 : CcOk PP 191 binK := val_ok rfl (fun ⟨n, ⟨a, ⟨b, _⟩⟩⟩ h => binVal n a b h)
noncomputable def uLt : Tel (Cf × Unit) := .cons 0 (.agg Ecf) (.nil)
theorem sizedFn (c : Cf) (Q : AV → Prop) : (callW PP (runW PP (KL [(191, binK)] []) 200) 190 (uLt.cells id (c, ())) (stE false) (fun x st => frzW st x Q)) = ( uCm (c.1, 1, 1024, ()) ∧ ifp (inB c.1 1 1024) (uCm (c.2.2.2.1, 1, 4096, ()) ∧ ifp (inB c.2.2.2.1 1 4096) (uCm (c.2.2.1, 1, 256, ()) ∧ ifp (inB c.2.2.1 1 256) (uCm (c.2.2.2.2.1, 1, 16777216, ()) ∧ ifp (inB c.2.2.2.2.1 1 16777216) (Q (AV.bool true)) (Q (AV.bool false))) (Q (AV.bool false))) (Q (AV.bool false))) (Q (AV.bool false))) := by kernel_rfl
def uB9 : Cf × Unit → Prop := fun (c, ()) => True
noncomputable def uJ9 : Cf × Unit → AV := fun (c, ()) => .bool (sizedB c)
noncomputable def uKa : CallC := valC uLt uB9 uJ9
theorem sizedVal (c : Cf) (hp : uB9 (c, ())) : Val PP 190 (uLt.cells id (c, ())) (uJ9 (c, ())) := by
 refine Val.ofF mixed (KL_ok (cc_cons uS6 (cc_nil))) (freesC rfl _) (sizedFn c) ?_
 refine ⟨trivial, ?_⟩
 cases h1 : inB c.1 1 1024 with
 | false => rw [ifp_neg rfl]; exact tells_bool (by rw [sizedB, h1]; rfl)
 | true =>
  rw [ifp_pos rfl]
  refine ⟨trivial, ?_⟩
  cases h2 : inB c.2.2.2.1 1 4096 with
  | false => rw [ifp_neg rfl]; exact tells_bool (by rw [sizedB, h1, h2]; rfl)
  | true =>
   rw [ifp_pos rfl]
   refine ⟨trivial, ?_⟩
   cases h3 : inB c.2.2.1 1 256 with
   | false => rw [ifp_neg rfl]; exact tells_bool (by rw [sizedB, h1, h2, h3]; rfl)
   | true =>
    rw [ifp_pos rfl]
    refine ⟨trivial, ?_⟩
    cases h4 : inB c.2.2.2.2.1 1 16777216 with
    | false => rw [ifp_neg rfl]; exact tells_bool (by rw [sizedB, h1, h2, h3, h4]; rfl)
    | true => rw [ifp_pos rfl]; exact tells_bool (by rw [sizedB, h1, h2, h3, h4]; rfl)
theorem uHf : CcOk PP 190 uKa := val_ok rfl (fun ⟨c, _⟩ h => sizedVal c h)
noncomputable def iszT : Tel (Cf × Unit) := .cons 0 (.agg Ecf) (.nil)
theorem iszFn (c : Cf) (Q : AV → Prop) : (callW PP (runW PP (KL [(190, uKa)] []) 200) 131 (iszT.cells id (c, ())) (stE false) (fun x st => frzW st x Q)) = ( ∃ (a : Cf), AV.agg [I64 c.1, I64 c.2.1, I64 c.2.2.1, I64 c.2.2.2.1, I64 c.2.2.2.2.1, I64 c.2.2.2.2.2.1, I64 c.2.2.2.2.2.2.1, I64 c.2.2.2.2.2.2.2.1] = AV.agg [I64 a.1, I64 a.2.1, I64 a.2.2.1, I64 a.2.2.2.1, I64 a.2.2.2.2.1, I64 a.2.2.2.2.2.1, I64 a.2.2.2.2.2.2.1, I64 a.2.2.2.2.2.2.2.1] ∧ uB9 (a, ()) ∧ ifp (sizedB a) (Q (I64 (wrapF .i64 ((wrapF .i64 (Int.mul 4 c.1)).mul (wrapF .i64 (c.2.2.2.1.add c.2.2.1)))))) (Q (I64 0))) := by kernel_rfl
def uG5 : Cf × Unit → Prop := fun (c, ()) => True
noncomputable def uQp : Cf × Unit → AV := fun (c, ()) => .int .i64 (iszV c)
noncomputable def iszK : CallC := valC iszT uG5 uQp
theorem iszVal (c : Cf) (hp : uG5 (c, ())) : Val PP 131 (iszT.cells id (c, ())) (uQp (c, ())) := by
 refine Val.ofF mixed (KL_ok (cc_cons uHf (cc_nil))) (freesC rfl _) (iszFn c) ?_
 refine ⟨c, rfl, trivial, ?_⟩
 cases hs : sizedB c with
 | false => rw [ifp_neg rfl]; exact tells_int (by rw [iszV, hs]; rfl)
 | true =>
  rw [ifp_pos rfl]
  obtain ⟨h1, h2, h3, h4⟩ := uA2.1 hs
  have := uBl (a := 4 * c.1) (A := 4096) (b := c.2.2.2.1 + c.2.2.1) (B := 4352) (by omega) (by omega) (by omega) (by omega)
  have e1 : wrapF .i64 (Int.mul 4 c.1) = 4 * c.1 := w64 (by show _ ≤ 4 * c.1; omega) (by show 4 * c.1 < _; omega)
  have e2 : wrapF .i64 (Int.add c.2.2.2.1 c.2.2.1) = c.2.2.2.1 + c.2.2.1 := wadd (by omega) (by omega)
  have e3 : wrapF .i64 (Int.mul (4 * c.1) (c.2.2.2.1 + c.2.2.1)) = 4 * c.1 * (c.2.2.2.1 + c.2.2.1) := w64 (by show _ ≤ 4 * c.1 * (c.2.2.2.1 + c.2.2.1); omega) (by show 4 * c.1 * (c.2.2.2.1 + c.2.2.1) < _; omega)
  exact tells_int (by rw [iszV, if_pos hs, e1, e2, e3])
theorem uSd : CcOk PP 131 iszK := val_ok rfl (fun ⟨c, _⟩ h => iszVal c h)
noncomputable def fszT : Tel (Int × Unit) := .ji 0 (.nil)
theorem fszFn (n : Int) (Q : AV → Prop) : (callW PP (runW PP (KL [] []) 200) 240 (fszT.cells id (n, ())) (stE false) (fun x st => frzW st x Q)) = ( ifp (!leInt 0 n) (Q (I64 0)) (ifp (!leInt n 33554432) (Q (I64 0)) (Q (I64 (wrapF .i64 (Int.add 8 n)))))) := by kernel_rfl
def uC1 : Int × Unit → Prop := fun (n, ()) => n < 9223372036854775000
noncomputable def uQz : Int × Unit → AV := fun (n, ()) => .int .i64 (fszV n)
noncomputable def fszK : CallC := valC fszT uC1 uQz
theorem fszVal (n : Int) (hp : uC1 (n, ())) : Val PP 240 (fszT.cells id (n, ())) (uQz (n, ())) := by
 refine Val.ofF mixed (KL_ok (cc_nil)) (freesC rfl _) (fszFn n) ?_
 have hp' : n < 9223372036854775000 := hp
 rw [ifp_lt, ifp_lt]
 split
 ·rename_i h; exact tells_int (by rw [fszV, if_pos (Or.inl h)])
 ·rename_i h
  split
  ·rename_i h2; exact tells_int (by rw [fszV, if_pos (Or.inr h2)])
  ·rename_i h2
   have e : wrapF .i64 (Int.add 8 n) = 8 + n := wadd (by omega) (by omega)
   exact tells_int (by rw [fszV, if_neg (by omega), e])
theorem fszCc : CcOk PP 240 fszK := val_ok rfl (fun ⟨n, _⟩ h => fszVal n h)
noncomputable def bszT : Tel (Cf × Int × Int × Unit) := .cons 0 (.agg Ecf) (.ji 1 (.ji 2 (.nil)))
theorem bszFn (c : Cf) (p x : Int) (Q : AV → Prop) : (callW PP (runW PP (KL [(190, uKa), (191, binK), (131, iszK), (240, fszK)] []) 200) 192 (bszT.cells id (c, p, x, ())) (stE false) (fun x st => frzW st x Q)) = ( ∃ (a : Cf), AV.agg [I64 c.1, I64 c.2.1, I64 c.2.2.1, I64 c.2.2.2.1, I64 c.2.2.2.2.1, I64 c.2.2.2.2.2.1, I64 c.2.2.2.2.2.2.1, I64 c.2.2.2.2.2.2.2.1] = AV.agg [I64 a.1, I64 a.2.1, I64 a.2.2.1, I64 a.2.2.2.1, I64 a.2.2.2.2.1, I64 a.2.2.2.2.2.1, I64 a.2.2.2.2.2.2.1, I64 a.2.2.2.2.2.2.2.1] ∧ uB9 (a, ()) ∧ ifp (sizedB a) (uCm (p, 0, c.2.2.2.2.1, ()) ∧ ifp (inB p 0 c.2.2.2.2.1) (ifp (!eqInt x 0) (∃ (a : Cf), AV.agg [I64 c.1, I64 c.2.1, I64 c.2.2.1, I64 c.2.2.2.1, I64 c.2.2.2.2.1, I64 c.2.2.2.2.2.1, I64 c.2.2.2.2.2.2.1, I64 c.2.2.2.2.2.2.2.1] = AV.agg [I64 a.1, I64 a.2.1, I64 a.2.2.1, I64 a.2.2.2.1, I64 a.2.2.2.2.1, I64 a.2.2.2.2.2.1, I64 a.2.2.2.2.2.2.1, I64 a.2.2.2.2.2.2.2.1] ∧ uG5 (a, ()) ∧ ifp (!eqInt x (iszV a)) (Q (I64 0)) (uC1 (50, ()) ∧ uC1 (wrapF .i64 (Int.add 8 (wrapF .i64 (Int.mul 2 c.1))), ()) ∧ (I64 c.1 = I64 c.1 ∧ True) ∧ ifp (!leInt x 0) (uC1 (wrapF .i64 (Int.add 1 x), ()) ∧ Q (I64 (wrapF .i64 ((wrapF .i64 ((fszV 50).add (wrapF .i64 (p.mul (fszV (wrapF .i64 (Int.add 8 (wrapF .i64 (Int.mul 2 c.1))))))))).add (fszV (wrapF .i64 (Int.add 1 x))))))) (Q (I64 (wrapF .i64 ((fszV 50).add (wrapF .i64 (p.mul (fszV (wrapF .i64 (Int.add 8 (wrapF .i64 (Int.mul 2 c.1))))))))))))) (uC1 (50, ()) ∧ uC1 (wrapF .i64 (Int.add 8 (wrapF .i64 (Int.mul 2 c.1))), ()) ∧ (I64 c.1 = I64 c.1 ∧ True) ∧ ifp (!leInt x 0) (uC1 (wrapF .i64 (Int.add 1 x), ()) ∧ Q (I64 (wrapF .i64 ((wrapF .i64 ((fszV 50).add (wrapF .i64 (p.mul (fszV (wrapF .i64 (Int.add 8 (wrapF .i64 (Int.mul 2 c.1))))))))).add (fszV (wrapF .i64 (Int.add 1 x))))))) (Q (I64 (wrapF .i64 ((fszV 50).add (wrapF .i64 (p.mul (fszV (wrapF .i64 (Int.add 8 (wrapF .i64 (Int.mul 2 c.1))))))))))))) (Q (I64 0))) (Q (I64 0))) := by kernel_rfl
def uLg : Cf × Int × Int × Unit → Prop := fun (c, p, x, ()) => x < 9223372036854770000
noncomputable def uQ8 : Cf × Int × Int × Unit → AV := fun (c, p, x, ()) => .int .i64 (bszV c p x)
noncomputable def bszK : CallC := valC bszT uLg uQ8
theorem bszVal (c : Cf) (p : Int) (x : Int) (hp : uLg (c, p, x, ())) : Val PP 192 (bszT.cells id (c, p, x, ())) (uQ8 (c, p, x, ())) := by
 refine Val.ofF mixed (KL_ok (cc_cons uHf (cc_cons uS6 (cc_cons uSd (cc_cons fszCc (cc_nil)))))) (freesC rfl _) (bszFn c p x) ?_
 have hx9 : x < 9223372036854770000 := hp
 refine ⟨c, rfl, trivial, ?_⟩
 cases hs : sizedB c with
 | false => rw [ifp_neg rfl]; exact tells_int (by rw [bszV, if_neg (by rw [hs]; simp)])
 | true =>
  rw [ifp_pos rfl]
  refine ⟨trivial, ?_⟩
  cases hi : inB p 0 c.2.2.2.2.1 with
  | false =>
   rw [ifp_neg rfl]
   exact tells_int (by rw [bszV, if_neg]; rintro ⟨_, h9, _⟩; rw [uFj.2 h9] at hi; cases hi)
  | true =>
   rw [ifp_pos rfl]
   have hi' := uFj.1 hi
   obtain ⟨h1, h2, h3, h4⟩ := uA2.1 hs
   have hpr := uBl (a := p) (A := 16777216) (b := 16 + 2 * c.1) (B := 2064) (by omega) (by omega) (by omega) (by omega)
   have hiz := uDt c
   have e1 : wrapF .i64 (Int.mul 2 c.1) = 2 * c.1 := w64 (by show _ ≤ 2 * c.1; omega) (by show 2 * c.1 < _; omega)
   have e2 : wrapF .i64 (Int.add 8 (2 * c.1)) = 8 + 2 * c.1 := wadd (by omega) (by omega)
   have e3 : fszV (8 + 2 * c.1) = 16 + 2 * c.1 := by rw [fszV, if_neg (by omega)]; omega
   have e4 : fszV 50 = 58 := rfl
   have e5 : wrapF .i64 (Int.mul p (16 + 2 * c.1)) = p * (16 + 2 * c.1) := w64 (by show _ ≤ p * (16 + 2 * c.1); omega) (by show p * (16 + 2 * c.1) < _; omega)
   have e6 : wrapF .i64 (Int.add 58 (p * (16 + 2 * c.1))) = 58 + p * (16 + 2 * c.1) := wadd (by omega) (by omega)
   simp only [e1, e2, e3, e4, e5, e6]
   have pre1 : (50 : Int) < 9223372036854775000 := by decide
   have pre2 : 8 + 2 * c.1 < 9223372036854775000 := by omega
   rw [ifp_ne]
   split
   ·rename_i h0
    subst h0
    refine ⟨pre1, pre2, ⟨(by trivial), trivial⟩, ?_⟩
    rw [ifp_lt, if_neg (by decide)]
    exact tells_int (by rw [bszV, if_pos ⟨hs, hi', Or.inl rfl⟩]; simp)
   ·rename_i h0
    refine ⟨c, rfl, trivial, ?_⟩
    rw [ifp_ne]
    split
    ·rename_i h5
     refine ⟨pre1, pre2, ⟨(by trivial), trivial⟩, ?_⟩
     have e7 : wrapF .i64 (Int.add 1 x) = 1 + x := wadd (by omega) (by omega)
     have e8 : fszV (1 + x) = 9 + x := by rw [fszV, if_neg (by omega)]; omega
     have e9 : wrapF .i64 (Int.add (58 + p * (16 + 2 * c.1)) (9 + x)) = 58 + p * (16 + 2 * c.1) + (9 + x) := wadd (by omega) (by omega)
     rw [ifp_lt, if_pos (by omega)]
     simp only [e7, e8, e9]
     refine ⟨by show 1 + x < _; omega, ?_⟩
     exact tells_int (by rw [bszV, if_pos ⟨hs, hi', Or.inr h5⟩, if_pos (by omega)])
    ·rename_i h5
     exact tells_int (by rw [bszV, if_neg (by rintro ⟨_, _, h9 | h9⟩; exact h0 h9; exact h5 h9)])
theorem uTy : CcOk PP 192 bszK := val_ok rfl (fun ⟨c, ⟨p, ⟨x, _⟩⟩⟩ h => bszVal c p x h)
noncomputable def rsvT : Tel (Cf × Unit) := .cons 0 (.agg Ecf) (.nil)
theorem rsvFn (c : Cf) (Q : AV → Prop) : (callW PP (runW PP (KL [(131, iszK), (192, bszK)] []) 200) 193 (rsvT.cells id (c, ())) (stE false) (fun x st => frzW st x Q)) = ( ∃ (a : Cf), AV.agg [I64 c.1, I64 c.2.1, I64 c.2.2.1, I64 c.2.2.2.1, I64 c.2.2.2.2.1, I64 c.2.2.2.2.2.1, I64 c.2.2.2.2.2.2.1, I64 c.2.2.2.2.2.2.2.1] = AV.agg [I64 a.1, I64 a.2.1, I64 a.2.2.1, I64 a.2.2.2.1, I64 a.2.2.2.2.1, I64 a.2.2.2.2.2.1, I64 a.2.2.2.2.2.2.1, I64 a.2.2.2.2.2.2.2.1] ∧ uG5 (a, ()) ∧ ∃ (a_1 : Cf), AV.agg [I64 c.1, I64 c.2.1, I64 c.2.2.1, I64 c.2.2.2.1, I64 c.2.2.2.2.1, I64 c.2.2.2.2.2.1, I64 c.2.2.2.2.2.2.1, I64 c.2.2.2.2.2.2.2.1] = AV.agg [I64 a_1.1, I64 a_1.2.1, I64 a_1.2.2.1, I64 a_1.2.2.2.1, I64 a_1.2.2.2.2.1, I64 a_1.2.2.2.2.2.1, I64 a_1.2.2.2.2.2.2.1, I64 a_1.2.2.2.2.2.2.2.1] ∧ uLg (a_1, c.2.2.2.2.1, iszV a, ()) ∧ (AV.agg [I64 c.1, I64 c.2.1, I64 c.2.2.1, I64 c.2.2.2.1, I64 c.2.2.2.2.1, I64 c.2.2.2.2.2.1, I64 c.2.2.2.2.2.2.1, I64 c.2.2.2.2.2.2.2.1] = AV.agg [I64 c.1, I64 c.2.1, I64 c.2.2.1, I64 c.2.2.2.1, I64 c.2.2.2.2.1, I64 c.2.2.2.2.2.1, I64 c.2.2.2.2.2.2.1, I64 c.2.2.2.2.2.2.2.1] ∧ True) ∧ (I64 c.2.2.2.2.1 = I64 c.2.2.2.2.1 ∧ True) ∧ True ∧ Q (I64 (bszV a_1 c.2.2.2.2.1 (iszV a)))) := by kernel_rfl
def uLx : Cf × Unit → Prop := fun (c, ()) => True
noncomputable def uQf : Cf × Unit → AV := fun (c, ()) => .int .i64 (rsvV c)
noncomputable def rsvK : CallC := valC rsvT uLx uQf
theorem rsvVal (c : Cf) (hp : uLx (c, ())) : Val PP 193 (rsvT.cells id (c, ())) (uQf (c, ())) := by
 refine Val.ofF mixed (KL_ok (cc_cons uSd (cc_cons uTy (cc_nil)))) (freesC rfl _) (rsvFn c) ?_
 have hiz := uDt c
 refine ⟨c, rfl, trivial, c, rfl, by show iszV c < _; omega, ⟨(by trivial), trivial⟩, ⟨(by trivial), trivial⟩, trivial, ?_⟩
 exact tells_int rfl
theorem rsvCc : CcOk PP 193 rsvK := val_ok rfl (fun ⟨c, _⟩ h => rsvVal c h)
noncomputable def cfgT : Tel (Cf × Unit) := .cons 0 (.agg Ecf) (.nil)
theorem cfgFn (c : Cf) (Q : AV → Prop) : (callW PP (runW PP (KL [(190, uKa), (191, binK), (192, bszK), (193, rsvK)] []) 200) 130 (cfgT.cells id (c, ())) (stE false) (fun x st => frzW st x Q)) = ( ∃ (a : Cf), AV.agg [I64 c.1, I64 c.2.1, I64 c.2.2.1, I64 c.2.2.2.1, I64 c.2.2.2.2.1, I64 c.2.2.2.2.2.1, I64 c.2.2.2.2.2.2.1, I64 c.2.2.2.2.2.2.2.1] = AV.agg [I64 a.1, I64 a.2.1, I64 a.2.2.1, I64 a.2.2.2.1, I64 a.2.2.2.2.1, I64 a.2.2.2.2.2.1, I64 a.2.2.2.2.2.2.1, I64 a.2.2.2.2.2.2.2.1] ∧ uB9 (a, ()) ∧ ifp (sizedB a) (ifp (leInt 1 c.2.1) (ifb false (ifb (leInt 1 c.2.1) 1 c.2.1) (ifb (leInt c.2.1 1) 1 c.2.1) ≠ 0 ∧ ifp (eqInt (c.1.tmod (ifb false (ifb (leInt 1 c.2.1) 1 c.2.1) (ifb (leInt c.2.1 1) 1 c.2.1))) 0) (uCm (c.2.2.2.2.2.1, 1, 64, ()) ∧ ifp (inB c.2.2.2.2.2.1 1 64) (uCm (c.2.2.2.2.2.2.1, 2, 4096, ()) ∧ ifp (inB c.2.2.2.2.2.2.1 2 4096) (∃ (a : Cf), AV.agg [I64 c.1, I64 c.2.1, I64 c.2.2.1, I64 c.2.2.2.1, I64 c.2.2.2.2.1, I64 c.2.2.2.2.2.1, I64 c.2.2.2.2.2.2.1, I64 c.2.2.2.2.2.2.2.1] = AV.agg [I64 a.1, I64 a.2.1, I64 a.2.2.1, I64 a.2.2.2.1, I64 a.2.2.2.2.1, I64 a.2.2.2.2.2.1, I64 a.2.2.2.2.2.2.1, I64 a.2.2.2.2.2.2.2.1] ∧ uLg (a, 0, 0, ()) ∧ ∃ (a_1 : Cf), AV.agg [I64 c.1, I64 c.2.1, I64 c.2.2.1, I64 c.2.2.2.1, I64 c.2.2.2.2.1, I64 c.2.2.2.2.2.1, I64 c.2.2.2.2.2.2.1, I64 c.2.2.2.2.2.2.2.1] = AV.agg [I64 a_1.1, I64 a_1.2.1, I64 a_1.2.2.1, I64 a_1.2.2.2.1, I64 a_1.2.2.2.2.1, I64 a_1.2.2.2.2.2.1, I64 a_1.2.2.2.2.2.2.1, I64 a_1.2.2.2.2.2.2.2.1] ∧ uLx (a_1, ()) ∧ ifp (!leInt (wrapF .i64 ((bszV a 0 0).add (rsvV a_1))) c.2.2.2.2.2.2.2.1) ((I64 c.2.2.2.2.2.2.2.1 = I64 c.2.2.2.2.2.2.2.1 ∧ I64 c.2.2.2.2.2.2.2.1 = I64 c.2.2.2.2.2.2.2.1 ∧ True) ∧ True ∧ (AV.agg [I64 c.1, I64 c.2.1, I64 c.2.2.1, I64 c.2.2.2.1, I64 c.2.2.2.2.1, I64 c.2.2.2.2.2.1, I64 c.2.2.2.2.2.2.1, I64 c.2.2.2.2.2.2.2.1] = AV.agg [I64 c.1, I64 c.2.1, I64 c.2.2.1, I64 c.2.2.2.1, I64 c.2.2.2.2.1, I64 c.2.2.2.2.2.1, I64 c.2.2.2.2.2.2.1, I64 c.2.2.2.2.2.2.2.1] ∧ True) ∧ Q (I64 2)) (ifp (!leInt c.2.2.2.2.2.2.2.1 1099511627776) ((I64 c.2.2.2.2.2.2.2.1 = I64 c.2.2.2.2.2.2.2.1 ∧ I64 c.2.2.2.2.2.2.2.1 = I64 c.2.2.2.2.2.2.2.1 ∧ True) ∧ True ∧ (AV.agg [I64 c.1, I64 c.2.1, I64 c.2.2.1, I64 c.2.2.2.1, I64 c.2.2.2.2.1, I64 c.2.2.2.2.2.1, I64 c.2.2.2.2.2.2.1, I64 c.2.2.2.2.2.2.2.1] = AV.agg [I64 c.1, I64 c.2.1, I64 c.2.2.1, I64 c.2.2.2.1, I64 c.2.2.2.2.1, I64 c.2.2.2.2.2.1, I64 c.2.2.2.2.2.2.1, I64 c.2.2.2.2.2.2.2.1] ∧ True) ∧ True ∧ Q (I64 2)) ((I64 c.2.2.2.2.2.2.2.1 = I64 c.2.2.2.2.2.2.2.1 ∧ I64 c.2.2.2.2.2.2.2.1 = I64 c.2.2.2.2.2.2.2.1 ∧ True) ∧ True ∧ (AV.agg [I64 c.1, I64 c.2.1, I64 c.2.2.1, I64 c.2.2.2.1, I64 c.2.2.2.2.1, I64 c.2.2.2.2.2.1, I64 c.2.2.2.2.2.2.1, I64 c.2.2.2.2.2.2.2.1] = AV.agg [I64 c.1, I64 c.2.1, I64 c.2.2.1, I64 c.2.2.2.1, I64 c.2.2.2.2.1, I64 c.2.2.2.2.2.1, I64 c.2.2.2.2.2.2.1, I64 c.2.2.2.2.2.2.2.1] ∧ True) ∧ True ∧ Q (I64 0)))) (Q (I64 2))) (Q (I64 2))) (Q (I64 2))) (Q (I64 2))) (Q (I64 2))) := by kernel_rfl
def uLc : Cf × Unit → Prop := fun (c, ()) => True
noncomputable def uQ5 : Cf × Unit → AV := fun (c, ()) => .int .i64 (cfgE c)
noncomputable def cfgK : CallC := valC cfgT uLc uQ5
theorem cfgVal (c : Cf) (hp : uLc (c, ())) : Val PP 130 (cfgT.cells id (c, ())) (uQ5 (c, ())) := by
 refine Val.ofF mixed (KL_ok (cc_cons uHf (cc_cons uS6 (cc_cons uTy (cc_cons rsvCc (cc_nil)))))) (freesC rfl _) (cfgFn c) ?_
 have no : ∀ {x : Bool}, cfgB c = false → (2 : Int) = cfgE c := fun h => by rw [cfgE, if_neg (by rw [h]; simp)]
 have emx : ifb false (ifb (leInt 1 c.2.1) 1 c.2.1) (ifb (leInt c.2.1 1) 1 c.2.1) = max 1 c.2.1 := by
  rw [ifb_false, ifb_eq, leInt_eq]
  by_cases h : c.2.1 ≤ 1
  ·rw [if_pos (by simpa using h)]; omega
  ·rw [if_neg (by simpa using h)]; omega
 simp only [emx]
 refine ⟨c, rfl, trivial, ?_⟩
 cases hs : sizedB c with
 | false => rw [ifp_neg rfl]; exact tells_int (no (x := true) (by rw [cfgB, hs]; rfl))
 | true =>
  rw [ifp_pos rfl, ifp_le]
  split
  ·rename_i h1
   refine ⟨by omega, ?_⟩
   rw [ifp_eq]
   split
   ·rename_i h2
    refine ⟨trivial, ?_⟩
    cases h3 : inB c.2.2.2.2.2.1 1 64 with
    | false => rw [ifp_neg rfl]; exact tells_int (no (x := true) (by rw [cfgB, h3]; simp))
    | true =>
     rw [ifp_pos rfl]
     refine ⟨trivial, ?_⟩
     cases h4 : inB c.2.2.2.2.2.2.1 2 4096 with
     | false => rw [ifp_neg rfl]; exact tells_int (no (x := true) (by rw [cfgB, h4]; simp))
     | true =>
      rw [ifp_pos rfl]
      have hB : cfgB c = true := by rw [cfgB, hs, h3, h4, decide_eq_true h1, decide_eq_true h2]; rfl
      have r1 := uG9 c 0 0
      have r2 := uG9 c c.2.2.2.2.1 (iszV c)
      have r3 : rsvV c = bszV c c.2.2.2.2.1 (iszV c) := rfl
      have e : wrapF .i64 (Int.add (bszV c 0 0) (rsvV c)) = bszV c 0 0 + rsvV c := wadd (by omega) (by omega)
      refine ⟨c, rfl, (by decide : (0 : Int) < 9223372036854770000), c, rfl, trivial, ?_⟩
      rw [e, ifp_lt]
      split
      ·rename_i h5
       exact ⟨⟨(by trivial), (by trivial), trivial⟩, trivial, ⟨(by trivial), trivial⟩, tells_int (by rw [cfgE, if_neg (by omega)])⟩
      ·rename_i h5
       rw [ifp_lt]
       split
       ·rename_i h6
        exact ⟨⟨(by trivial), (by trivial), trivial⟩, trivial, ⟨(by trivial), trivial⟩, trivial, tells_int (by rw [cfgE, if_neg (by omega)])⟩
       ·rename_i h6
        exact ⟨⟨(by trivial), (by trivial), trivial⟩, trivial, ⟨(by trivial), trivial⟩, trivial, tells_int (by rw [cfgE, if_pos ⟨hB, by omega, by omega⟩])⟩
   ·rename_i h2
    exact tells_int (no (x := true) (by rw [cfgB, decide_eq_false h2]; simp))
  ·rename_i h1
   exact tells_int (no (x := true) (by rw [cfgB, decide_eq_false h1]; simp))
theorem uTw : CcOk PP 130 cfgK := val_ok rfl (fun ⟨c, _⟩ h => cfgVal c h)
noncomputable def uRs : Tel (Int × Int × Int × Unit) := .ji 0 (.ji 1 (.ji 2 (.nil)))
theorem rbinFn (n a b : Int) (Q : AV → Prop) : (callW PP (runW PP (KL [] []) 200) 201 (uRs.cells id (n, a, b, ())) (stE false) (fun x st => frzW st x Q)) = ( ifp (leInt a n) (ifp (leInt n b) (Q (AV.bool true)) (Q (AV.bool false))) (Q (AV.bool false))) := by kernel_rfl
def uCp : Int × Int × Int × Unit → Prop := fun (n, a, b, ()) => True
noncomputable def uL8 : Int × Int × Int × Unit → AV := fun (n, a, b, ()) => .bool (inB n a b)
noncomputable def uTl : CallC := valC uRs uCp uL8
theorem rbinVal (n : Int) (a : Int) (b : Int) (hp : uCp (n, a, b, ())) : Val PP 201 (uRs.cells id (n, a, b, ())) (uL8 (n, a, b, ())) := by
 refine Val.ofF mixed (KL_ok (cc_nil)) (freesC rfl _) (rbinFn n a b) ?_
 rw [ifp_le, ifp_le]
 split
 ·rename_i h1
  split
  ·rename_i h2; exact tells_bool (uFj.2 ⟨h1, h2⟩).symm
  ·rename_i h2; exact tells_bool (by simp [inB, h2])
 ·rename_i h1; exact tells_bool (by simp [inB, h1])
theorem rbinCc : CcOk PP 201 uTl := val_ok rfl (fun ⟨n, ⟨a, ⟨b, _⟩⟩⟩ h => rbinVal n a b h)
noncomputable def uRr : Tel (Cf × Unit) := .cons 0 (.agg Ecf) (.nil)
theorem rbndFn (c : Cf) (Q : AV → Prop) : (callW PP (runW PP (KL [(201, uTl)] []) 200) 150 (uRr.cells id (c, ())) (stE false) (fun x st => frzW st x Q)) = ( uCp (c.1, 1, 1024, ()) ∧ ifp (inB c.1 1 1024) (uCp (c.2.2.2.1, 1, 4096, ()) ∧ ifp (inB c.2.2.2.1 1 4096) (uCp (c.2.2.1, 1, 256, ()) ∧ ifp (inB c.2.2.1 1 256) (uCp (c.2.2.2.2.1, 1, 16777216, ()) ∧ ifp (inB c.2.2.2.2.1 1 16777216) (Q (AV.bool true)) (Q (AV.bool false))) (Q (AV.bool false))) (Q (AV.bool false))) (Q (AV.bool false))) := by kernel_rfl
def uHl : Cf × Unit → Prop := fun (c, ()) => True
noncomputable def uL7 : Cf × Unit → AV := fun (c, ()) => .bool (sizedB c)
noncomputable def uTk : CallC := valC uRr uHl uL7
theorem rbndVal (c : Cf) (hp : uHl (c, ())) : Val PP 150 (uRr.cells id (c, ())) (uL7 (c, ())) := by
 refine Val.ofF mixed (KL_ok (cc_cons rbinCc (cc_nil))) (freesC rfl _) (rbndFn c) ?_
 refine ⟨trivial, ?_⟩
 cases h1 : inB c.1 1 1024 with
 | false => rw [ifp_neg rfl]; exact tells_bool (by rw [sizedB, h1]; rfl)
 | true =>
  rw [ifp_pos rfl]
  refine ⟨trivial, ?_⟩
  cases h2 : inB c.2.2.2.1 1 4096 with
  | false => rw [ifp_neg rfl]; exact tells_bool (by rw [sizedB, h1, h2]; rfl)
  | true =>
   rw [ifp_pos rfl]
   refine ⟨trivial, ?_⟩
   cases h3 : inB c.2.2.1 1 256 with
   | false => rw [ifp_neg rfl]; exact tells_bool (by rw [sizedB, h1, h2, h3]; rfl)
   | true =>
    rw [ifp_pos rfl]
    refine ⟨trivial, ?_⟩
    cases h4 : inB c.2.2.2.2.1 1 16777216 with
    | false => rw [ifp_neg rfl]; exact tells_bool (by rw [sizedB, h1, h2, h3, h4]; rfl)
    | true => rw [ifp_pos rfl]; exact tells_bool (by rw [sizedB, h1, h2, h3, h4]; rfl)
theorem rbndCc : CcOk PP 150 uTk := val_ok rfl (fun ⟨c, _⟩ h => rbndVal c h)
noncomputable def rszT : Tel (Cf × Unit) := .cons 0 (.agg Ecf) (.nil)
theorem rszFn (c : Cf) (Q : AV → Prop) : (callW PP (runW PP (KL [(150, uTk)] []) 200) 68 (rszT.cells id (c, ())) (stE false) (fun x st => frzW st x Q)) = ( ∃ (a : Cf), AV.agg [I64 c.1, I64 c.2.1, I64 c.2.2.1, I64 c.2.2.2.1, I64 c.2.2.2.2.1, I64 c.2.2.2.2.2.1, I64 c.2.2.2.2.2.2.1, I64 c.2.2.2.2.2.2.2.1] = AV.agg [I64 a.1, I64 a.2.1, I64 a.2.2.1, I64 a.2.2.2.1, I64 a.2.2.2.2.1, I64 a.2.2.2.2.2.1, I64 a.2.2.2.2.2.2.1, I64 a.2.2.2.2.2.2.2.1] ∧ uHl (a, ()) ∧ ifp (sizedB a) (Q (I64 (wrapF .i64 ((wrapF .i64 (Int.mul 4 c.1)).mul (wrapF .i64 (c.2.2.2.1.add c.2.2.1)))))) (Q (I64 0))) := by kernel_rfl
def uLw : Cf × Unit → Prop := fun (c, ()) => True
noncomputable def uQe : Cf × Unit → AV := fun (c, ()) => .int .i64 (iszV c)
noncomputable def rszK : CallC := valC rszT uLw uQe
theorem rszVal (c : Cf) (hp : uLw (c, ())) : Val PP 68 (rszT.cells id (c, ())) (uQe (c, ())) := by
 refine Val.ofF mixed (KL_ok (cc_cons rbndCc (cc_nil))) (freesC rfl _) (rszFn c) ?_
 refine ⟨c, rfl, trivial, ?_⟩
 cases hs : sizedB c with
 | false => rw [ifp_neg rfl]; exact tells_int (by rw [iszV, hs]; rfl)
 | true =>
  rw [ifp_pos rfl]
  obtain ⟨h1, h2, h3, h4⟩ := uA2.1 hs
  have := uBl (a := 4 * c.1) (A := 4096) (b := c.2.2.2.1 + c.2.2.1) (B := 4352) (by omega) (by omega) (by omega) (by omega)
  have e1 : wrapF .i64 (Int.mul 4 c.1) = 4 * c.1 := w64 (by show _ ≤ 4 * c.1; omega) (by show 4 * c.1 < _; omega)
  have e2 : wrapF .i64 (Int.add c.2.2.2.1 c.2.2.1) = c.2.2.2.1 + c.2.2.1 := wadd (by omega) (by omega)
  have e3 : wrapF .i64 (Int.mul (4 * c.1) (c.2.2.2.1 + c.2.2.1)) = 4 * c.1 * (c.2.2.2.1 + c.2.2.1) := w64 (by show _ ≤ 4 * c.1 * (c.2.2.2.1 + c.2.2.1); omega) (by show 4 * c.1 * (c.2.2.2.1 + c.2.2.1) < _; omega)
  exact tells_int (by rw [iszV, if_pos hs, e1, e2, e3])
theorem rszCc : CcOk PP 68 rszK := val_ok rfl (fun ⟨c, _⟩ h => rszVal c h)
end Go.Proofs.YtcnnjlhecndhnaaGreat
namespace Go.Proofs.YtcnnjlhecndhnaaGreat
open Go.Det Go.RowKit
set_option maxRecDepth 100000
abbrev Ecs : Enc (List (List Int)) := Enc.list Ell
abbrev Ews : Enc (List (List (List Int))) := Enc.list Ecs
abbrev Bk := List (List (List Int)) × Unit
abbrev Ebk : Enc Bk := Enc.pair Ews Enc.unit
abbrev Tn := List (List Int) × List (List (List Int)) × Unit
abbrev Etr : Enc Tn := Enc.pair Ecs (Enc.pair Ews Enc.unit)
def uAs (x : Int) : Bool := decide (x < -65536) || decide (65536 < x)
abbrev uDw := ((List Int) × Unit × Int × Int × Unit) × (Unit)
noncomputable def uNa : Tel ((List Int) × Unit × Int × Int × Unit) := .cons 0 (.lst Ei32) (.cons 1 (.fnp 211 []) (.ji 7 (.ji 8 (.nil))))
noncomputable def uNe : BTel (Unit) := .nil
noncomputable def uNd : List (LForm uDw) := [⟨_, _, uNa, uNe, fun x y => (x, y)⟩]
abbrev uAp := Int × Unit
noncomputable def uFl (R0 : uDw → (Unit) → (Unit) → Prop) (R1 : uDw → uAp → (Unit) → Prop) : List (Alt uDw) := [⟨.exit 0, Unit, Unit, .nil, .nil, R0⟩, ⟨.ret, Int × Unit, Unit, .ji 4 (.nil), .nil, R1⟩]
theorem idxgForm (l : List Int) (n i : Int) (N : uDw → Prop) (R0 : uDw → (Unit) → (Unit) → Prop) (R1 : uDw → uAp → (Unit) → Prop) : ((runW PP (KL [] []) 100).code none 247 19 (loopBody PP 247 2) (mkT (uNa.av id (l, (), n, i, ()))) [] (stL false (uNe.obs id ())) (postL 0 uNd (uFl R0 R1) ((l, (), n, i, ()), ()) N)) = ( ifp (!leInt n i) (idxOk i l.length ∧ ∃ x : Int, nth ((natOf i).mul 1) (l.flatMap Ei32.f) = some (AV.int .i32 x) ∧ ifp (!leInt (-65536) x) (True ∧ true = true ∧ R1 ((l, (), n, i, ()), ()) (i, ()) ()) (ifp (!leInt x 65536) (True ∧ true = true ∧ R1 ((l, (), n, i, ()), ()) (i, ()) ()) (True ∧ ∃ l_1, Wv Ei32 l l_1 ∧ true = true ∧ N ((l_1, (), n, wrapF .i64 (i.add 1), ()), ())))) (True ∧ true = true ∧ R0 ((l, (), n, i, ()), ()) () ())) := by kernel_rfl
def uH8 : uDw → Prop := fun ((l, (), n, i, ()), ()) => ∃ k : Nat, i = k ∧ n = l.length ∧ k ≤ l.length ∧ l.length < 9223372036854775807 ∧ (l.take k).any uAs = false
def uQt : uDw → Nat := fun ((l, (), n, i, ()), ()) => l.length - i.toNat
def uNc : uDw → (Unit) → (Unit) → Prop := fun ((l, (), n, i, ()), ()) _ _ => l.any uAs = false
def uNb : uDw → uAp → (Unit) → Prop := fun ((l, (), n, i, ()), ()) (r, _) _ => 0 ≤ r ∧ l.any uAs = true
noncomputable def uSf : LoopC := loopC 0 uNd (uFl uNc uNb) uH8
theorem idxgStep : stepsOk PP (KL [] []) 100 247 19 (loopBody PP 247 2) 0 false uNd (uFl uNc uNb) uH8 uQt ⟨_, _, uNa, uNe, fun x y => (x, y)⟩ := by
 intro x y hz
 obtain ⟨l, _, n, i, _⟩ := x
 obtain _ := y
 refine (idxgForm l n i _ _ _).mpr ?_
 obtain ⟨k, rfl, rfl, hk, hl, ht⟩ := hz
 rw [ifp_lt]
 simp only [natOf_nat]
 split
 ·rename_i h
  have hkl : k < l.length := by simpa using h
  repeat first | refine ⟨Nat.le_refl _, ?_⟩ | rw [ifp_pos (roomy_small (by simp only [Nat.add_eq]; omega) (by decide))] | refine ⟨trivial, ?_⟩ | refine ⟨(rfl : true = true), ?_⟩ | refine ⟨idx_ok (by omega), ?_⟩ | refine ⟨idx_ok0 (by omega), ?_⟩ | refine ⟨_, nth_int (by omega), ?_⟩ | refine ⟨_, _, _, _, _, _, nth_lst (by omega), ?_⟩ | refine ⟨_, _, _, _, _, _, nth_lst0 (by omega), ?_⟩ | refine ⟨_, Wk.refl _, ?_⟩ | rw [ifp_pos rfl]
  rw [ifp_lt]
  split
  ·rename_i h2
   repeat first | refine ⟨Nat.le_refl _, ?_⟩ | rw [ifp_pos (roomy_small (by simp only [Nat.add_eq]; omega) (by decide))] | refine ⟨trivial, ?_⟩ | refine ⟨(rfl : true = true), ?_⟩ | refine ⟨idx_ok (by omega), ?_⟩ | refine ⟨idx_ok0 (by omega), ?_⟩ | refine ⟨_, nth_int (by omega), ?_⟩ | refine ⟨_, _, _, _, _, _, nth_lst (by omega), ?_⟩ | refine ⟨_, _, _, _, _, _, nth_lst0 (by omega), ?_⟩ | refine ⟨_, Wk.refl _, ?_⟩ | rw [ifp_pos rfl]
   exact ⟨by omega, any_of_get hkl (by simp [uAs, h2])⟩
  ·rename_i h2
   rw [ifp_lt]
   split
   ·rename_i h3
    repeat first | refine ⟨Nat.le_refl _, ?_⟩ | rw [ifp_pos (roomy_small (by simp only [Nat.add_eq]; omega) (by decide))] | refine ⟨trivial, ?_⟩ | refine ⟨(rfl : true = true), ?_⟩ | refine ⟨idx_ok (by omega), ?_⟩ | refine ⟨idx_ok0 (by omega), ?_⟩ | refine ⟨_, nth_int (by omega), ?_⟩ | refine ⟨_, _, _, _, _, _, nth_lst (by omega), ?_⟩ | refine ⟨_, _, _, _, _, _, nth_lst0 (by omega), ?_⟩ | refine ⟨_, Wk.refl _, ?_⟩ | rw [ifp_pos rfl]
    exact ⟨by omega, any_of_get hkl (by simp [uAs, h3])⟩
   ·rename_i h3
    repeat first | refine ⟨Nat.le_refl _, ?_⟩ | rw [ifp_pos (roomy_small (by simp only [Nat.add_eq]; omega) (by decide))] | refine ⟨trivial, ?_⟩ | refine ⟨(rfl : true = true), ?_⟩ | refine ⟨idx_ok (by omega), ?_⟩ | refine ⟨idx_ok0 (by omega), ?_⟩ | refine ⟨_, nth_int (by omega), ?_⟩ | refine ⟨_, _, _, _, _, _, nth_lst (by omega), ?_⟩ | refine ⟨_, _, _, _, _, _, nth_lst0 (by omega), ?_⟩ | refine ⟨_, Wk.refl _, ?_⟩ | rw [ifp_pos rfl]
    rw [wsucc (by omega)]
    refine ⟨⟨k + 1, rfl, rfl, hkl, hl, ?_⟩, ?_, fun _ _ h => h, fun _ _ h => h, trivial⟩
    ·rw [any_take_succ hkl, ht]; simp [uAs]; omega
    ·show l.length - (k + 1) < l.length - k; omega
 ·rename_i h
  repeat first | refine ⟨Nat.le_refl _, ?_⟩ | rw [ifp_pos (roomy_small (by simp only [Nat.add_eq]; omega) (by decide))] | refine ⟨trivial, ?_⟩ | refine ⟨(rfl : true = true), ?_⟩ | refine ⟨idx_ok (by omega), ?_⟩ | refine ⟨idx_ok0 (by omega), ?_⟩ | refine ⟨_, nth_int (by omega), ?_⟩ | refine ⟨_, _, _, _, _, _, nth_lst (by omega), ?_⟩ | refine ⟨_, _, _, _, _, _, nth_lst0 (by omega), ?_⟩ | refine ⟨_, Wk.refl _, ?_⟩ | rw [ifp_pos rfl]
  rw [take_all (by simpa using h)] at ht; exact ht
theorem idxgOk : LoopOk PP 247 19 (.loop (loopBody PP 247 2)) (uSf) := loop_ok uQt  mixed (KL_ok (cc_nil)) rfl (steps_cons idxgStep (steps_nil))
noncomputable def uIe : Tel ((List Int) × Unit) := .cons 0 (.lst Ei32) (.nil)
theorem greatfFn (v : List Int) (Q : AV → Prop) : (callW PP (runW PP (KL [] [(247, [(2, uSf)])]) 200) 141 (uIe.cells id (v, ())) (stE false) (fun x st => frzW st x Q)) = ( LoopOk PP 247 19 (loopBody PP 247 2).loop uSf ∧ True ∧ True ∧ ∃ l, Wv Ei32 v l ∧ true = true ∧ uH8 ((l, (), Int.ofNat v.length, 0, ()), ()) ∧ (∀ (c d : Unit), uNc ((l, (), Int.ofNat v.length, 0, ()), ()) c d → Q (AV.bool false)) ∧ (∀ c d, uNb ((l, (), Int.ofNat v.length, 0, ()), ()) c d → ifp (leInt 0 c.1) (Q (AV.bool true)) (Q (AV.bool false))) ∧ True) := by kernel_rfl
def uD2 : (List Int) × Unit → Prop := fun (v, ()) => v.length < 9223372036854775807
noncomputable def uG6 : (List Int) × Unit → AV := fun (v, ()) => .bool (v.any uAs)
noncomputable def uIf : CallC := valC uIe uD2 uG6
theorem greatfVal (v : List Int) (hp : uD2 (v, ())) : Val PP 141 (uIe.cells id (v, ())) (uG6 (v, ())) := by
 refine Val.ofF mixed (KL_ok (cc_nil)) (freesC rfl _) (greatfFn v) ?_
 have hp' : v.length < 9223372036854775807 := hp
 refine ⟨idxgOk, trivial, trivial, v, Wk.refl _, rfl, ⟨0, rfl, rfl, Nat.zero_le _, hp', rfl⟩, fun _ _ hr => ?_, fun c _ hr => ?_, trivial⟩
 ·exact tells_bool (Eq.symm hr)
 ·obtain ⟨r, _⟩ := c
  obtain ⟨h0, hf⟩ := hr
  rw [ifp_le, if_pos h0]
  exact tells_bool hf.symm
theorem greatfCc : CcOk PP 141 uIf := val_ok rfl (fun ⟨v, _⟩ h => greatfVal v h)
abbrev uEt := (List (List Int)) × Unit × Int × Int × Unit
abbrev uD0 := uEt × (Unit)
noncomputable def uNu : Tel uEt := .cons 0 (.lst Ell) (.cons 1 (.fnp 141 []) (.ji 7 (.ji 8 (.nil))))
noncomputable def uNy : BTel (Unit) := .nil
noncomputable def uNx : List (LForm uD0) := [⟨_, _, uNu, uNy, fun x y => (x, y)⟩]
noncomputable def uFp (R0 : uD0 → (Unit) → (Unit) → Prop) (R1 : uD0 → uAp → (Unit) → Prop) : List (Alt uD0) := [⟨.exit 0, Unit, Unit, .nil, .nil, R0⟩, ⟨.ret, Int × Unit, Unit, .ji 4 (.nil), .nil, R1⟩]
theorem idxGForm (l : List (List Int)) (n i : Int) (N : uD0 → Prop) (R0 : uD0 → (Unit) → (Unit) → Prop) (R1 : uD0 → uAp → (Unit) → Prop) : ((runW PP (KL [(141, uIf)] []) 100).code none 209 19 (loopBody PP 209 2) (mkT (uNu.av id (l, (), n, i, ()))) [] (stL false (uNy.obs id ())) (postL 0 uNx (uFp R0 R1) ((l, (), n, i, ()), ()) N)) = ( ifp (!leInt n i) (idxOk i l.length ∧ ∃ l' n_1 c x w e, nth ((natOf i).mul 1) (l.flatMap Ell.f) = some (AV.vs l' n_1 c x w e) ∧ ∃ (l_1 : List Int), Wk (AV.vs l' n_1 c x w e) (lst Ei32 l_1) ∧ uD2 (l_1, ()) ∧ ifp (l_1.any uAs) (True ∧ true = true ∧ R1 ((l, (), n, i, ()), ()) (i, ()) ()) (True ∧ ∃ l_2, Wv Ell l l_2 ∧ true = true ∧ N ((l_2, (), n, wrapF .i64 (i.add 1), ()), ()))) (True ∧ true = true ∧ R0 ((l, (), n, i, ()), ()) () ())) := by kernel_rfl
def uIc : uD0 → Prop := fun ((l, (), n, i, ()), ()) => ∃ k : Nat, i = k ∧ n = l.length ∧ k ≤ l.length ∧ l.length ≤ 4194304 ∧ (∀ x ∈ l, x.length ≤ 4194304) ∧ (l.take k).any (fun v => v.any uAs) = false
def uQx : uD0 → Nat := fun ((l, (), n, i, ()), ()) => l.length - i.toNat
def uNw : uD0 → (Unit) → (Unit) → Prop := fun ((l, (), n, i, ()), ()) _ _ => True ∧ l.any (fun v => v.any uAs) = false
def uNv : uD0 → uAp → (Unit) → Prop := fun ((l, (), n, i, ()), ()) (r, _) _ => True ∧ 0 ≤ r ∧ l.any (fun v => v.any uAs) = true
noncomputable def uSi : LoopC := loopC 0 uNx (uFp uNw uNv) uIc
theorem idxGStep : stepsOk PP (KL [(141, uIf)] []) 100 209 19 (loopBody PP 209 2) 0 false uNx (uFp uNw uNv) uIc uQx ⟨_, _, uNu, uNy, fun x y => (x, y)⟩ := by
 intro x y hz
 obtain ⟨l, _, n, i, _⟩ := x
 obtain _ := y
 refine (idxGForm l n i _ _ _).mpr ?_
 obtain ⟨k, rfl, rfl, hk, hl, hx, ht⟩ := hz
 rw [ifp_lt]
 simp only [natOf_nat]
 split
 ·rename_i h
  have hkl : k < l.length := by simpa using h
  refine ⟨idx_ok hkl, _, _, _, _, _, _, nth_lst hkl, l[k], Wk.refl _, by have := hx _ (List.getElem_mem hkl); show _ < _; omega, ?_⟩
  cases hm : l[k].any uAs with
  | false =>
   rw [ifp_neg rfl]
   refine ⟨trivial, l, Wk.refl _, (by trivial), ?_⟩
   rw [wsucc (by omega)]
   exact ⟨⟨k + 1, rfl, rfl, hkl, hl, hx, by rw [any_take_succ hkl, ht, hm]; rfl⟩, by show l.length - (k + 1) < l.length - k; omega, fun _ _ h => h, fun _ _ h => h, trivial⟩
  | true =>
   rw [ifp_pos rfl]
   exact ⟨trivial, (by trivial), trivial, by omega, any_of_get hkl hm⟩
 ·rename_i h
  have hkl : ¬ k < l.length := by simpa using h
  exact ⟨trivial, (by trivial), trivial, by rw [take_all hkl] at ht; exact ht⟩
theorem idxGOk : LoopOk PP 209 19 (.loop (loopBody PP 209 2)) (uSi) := loop_ok uQx  mixed (KL_ok (cc_cons greatfCc (cc_nil))) rfl (steps_cons idxGStep (steps_nil))
abbrev uKp := (List (List Int)) × Unit × Unit
noncomputable def uTg : Tel uKp := .cons 0 (.lst Ell) (.cons 1 (.fnp 141 []) (.nil))
theorem anyGFn (l : List (List Int)) (Q : AV → Prop) : (callW PP (runW PP (KL [] [(209, [(2, uSi)])]) 200) 140 (uTg.cells id (l, (), ())) (stE false) (fun x st => frzW st x Q)) = ( LoopOk PP 209 19 (loopBody PP 209 2).loop uSi ∧ True ∧ True ∧ ∃ l_1, Wv Ell l l_1 ∧ true = true ∧ uIc ((l_1, (), Int.ofNat l.length, 0, ()), ()) ∧ (∀ (c d : Unit), uNw ((l_1, (), Int.ofNat l.length, 0, ()), ()) c d → Q (AV.bool false)) ∧ (∀ c d, uNv ((l_1, (), Int.ofNat l.length, 0, ()), ()) c d → ifp (leInt 0 c.1) (Q (AV.bool true)) (Q (AV.bool false))) ∧ True) := by kernel_rfl
def uGq : (List (List Int)) × Unit × Unit → Prop := fun (l, (), ()) => l.length ≤ 4194304 ∧ ∀ x ∈ l, x.length ≤ 4194304
noncomputable def uPw : (List (List Int)) × Unit × Unit → AV := fun (l, (), ()) => .bool (l.any fun v => v.any uAs)
noncomputable def uT4 : CallC := valC uTg uGq uPw
theorem anyGVal (l : List (List Int)) (hp : uGq (l, (), ())) : Val PP 140 (uTg.cells id (l, (), ())) (uPw (l, (), ())) := by
 refine Val.ofF mixed (KL_ok (cc_nil)) (freesC rfl _) (anyGFn l) ?_
 refine ⟨idxGOk, trivial, trivial, l, Wk.refl _, rfl, ⟨0, rfl, rfl, Nat.zero_le _, hp.1, hp.2, rfl⟩, fun _ _ hr => ?_, fun c _ hr => ?_, trivial⟩
 ·exact tells_bool (Eq.symm hr.2)
 ·obtain ⟨r, _⟩ := c
  obtain ⟨_, h0, hf⟩ := hr
  rw [ifp_le, if_pos h0]
  exact tells_bool hf.symm
theorem anyGCc : CcOk PP 140 uT4 := val_ok rfl (fun ⟨l, ⟨_, _⟩⟩ h => anyGVal l h)
noncomputable def uSr : Tel ((List Int) × Unit) := .cons 0 (.lst Ei32) (.nil)
theorem cwneFn (v : List Int) (Q : AV → Prop) : (callW PP (runW PP (KL [(177, cwK)] []) 200) 208 (uSr.cells id (v, ())) (stE false) (fun x st => frzW st x Q)) = ( ∃ l, Wv Ei32 v l ∧ uP7 (l, ()) ∧ ifp (!eqInt (cw l) 0) (Q (AV.bool true)) (Q (AV.bool false))) := by kernel_rfl
def uIk : (List Int) × Unit → Prop := fun (v, ()) => True
noncomputable def uOl : (List Int) × Unit → AV := fun (v, ()) => .bool (decide (cw v ≠ 0))
noncomputable def uSs : CallC := valC uSr uIk uOl
theorem cwneVal (v : List Int) (hp : uIk (v, ())) : Val PP 208 (uSr.cells id (v, ())) (uOl (v, ())) := by
 refine Val.ofF mixed (KL_ok (cc_cons cwCc (cc_nil))) (freesC rfl _) (cwneFn v) ?_
 refine ⟨v, Wk.refl _, trivial, ?_⟩
 rw [ifp_ne]
 split
 ·rename_i h; exact tells_bool (by simp [h])
 ·rename_i h; exact tells_bool (by simp [h])
theorem cwneCc : CcOk PP 208 uSs := val_ok rfl (fun ⟨v, _⟩ h => cwneVal v h)
abbrev uD1 := uEt × (Unit)
noncomputable def uNz : Tel uEt := .cons 0 (.lst Ell) (.cons 1 (.fnp 208 []) (.ji 7 (.ji 8 (.nil))))
noncomputable def uN3 : BTel (Unit) := .nil
noncomputable def uN2 : List (LForm uD1) := [⟨_, _, uNz, uN3, fun x y => (x, y)⟩]
noncomputable def uFq (R0 : uD1 → (Unit) → (Unit) → Prop) (R1 : uD1 → uAp → (Unit) → Prop) : List (Alt uD1) := [⟨.exit 0, Unit, Unit, .nil, .nil, R0⟩, ⟨.ret, Int × Unit, Unit, .ji 4 (.nil), .nil, R1⟩]
theorem idxCForm (l : List (List Int)) (n i : Int) (N : uD1 → Prop) (R0 : uD1 → (Unit) → (Unit) → Prop) (R1 : uD1 → uAp → (Unit) → Prop) : ((runW PP (KL [(208, uSs)] []) 100).code none 209 19 (loopBody PP 209 2) (mkT (uNz.av id (l, (), n, i, ()))) [] (stL false (uN3.obs id ())) (postL 0 uN2 (uFq R0 R1) ((l, (), n, i, ()), ()) N)) = ( ifp (!leInt n i) (idxOk i l.length ∧ ∃ l' n_1 c x w e, nth ((natOf i).mul 1) (l.flatMap Ell.f) = some (AV.vs l' n_1 c x w e) ∧ ∃ (l_1 : List Int), Wk (AV.vs l' n_1 c x w e) (lst Ei32 l_1) ∧ uIk (l_1, ()) ∧ ifp (decide (cw l_1 ≠ 0)) (True ∧ true = true ∧ R1 ((l, (), n, i, ()), ()) (i, ()) ()) (True ∧ ∃ l_2, Wv Ell l l_2 ∧ true = true ∧ N ((l_2, (), n, wrapF .i64 (i.add 1), ()), ()))) (True ∧ true = true ∧ R0 ((l, (), n, i, ()), ()) () ())) := by kernel_rfl
def uId : uD1 → Prop := fun ((l, (), n, i, ()), ()) => ∃ k : Nat, i = k ∧ n = l.length ∧ k ≤ l.length ∧ l.length ≤ 4194304 ∧ (True) ∧ (l.take k).any (fun v => decide (cw v ≠ 0)) = false
def uQy : uD1 → Nat := fun ((l, (), n, i, ()), ()) => l.length - i.toNat
def uN1 : uD1 → (Unit) → (Unit) → Prop := fun ((l, (), n, i, ()), ()) _ _ => True ∧ l.any (fun v => decide (cw v ≠ 0)) = false
def uN0 : uD1 → uAp → (Unit) → Prop := fun ((l, (), n, i, ()), ()) (r, _) _ => True ∧ 0 ≤ r ∧ l.any (fun v => decide (cw v ≠ 0)) = true
noncomputable def uSj : LoopC := loopC 0 uN2 (uFq uN1 uN0) uId
theorem idxCStep : stepsOk PP (KL [(208, uSs)] []) 100 209 19 (loopBody PP 209 2) 0 false uN2 (uFq uN1 uN0) uId uQy ⟨_, _, uNz, uN3, fun x y => (x, y)⟩ := by
 intro x y hz
 obtain ⟨l, _, n, i, _⟩ := x
 obtain _ := y
 refine (idxCForm l n i _ _ _).mpr ?_
 obtain ⟨k, rfl, rfl, hk, hl, hx, ht⟩ := hz
 rw [ifp_lt]
 simp only [natOf_nat]
 split
 ·rename_i h
  have hkl : k < l.length := by simpa using h
  refine ⟨idx_ok hkl, _, _, _, _, _, _, nth_lst hkl, l[k], Wk.refl _, trivial, ?_⟩
  cases hm : decide (cw l[k] ≠ 0) with
  | false =>
   rw [ifp_neg rfl]
   refine ⟨trivial, l, Wk.refl _, (by trivial), ?_⟩
   rw [wsucc (by omega)]
   exact ⟨⟨k + 1, rfl, rfl, hkl, hl, hx, by rw [any_take_succ hkl, ht, hm]; rfl⟩, by show l.length - (k + 1) < l.length - k; omega, fun _ _ h => h, fun _ _ h => h, trivial⟩
  | true =>
   rw [ifp_pos rfl]
   exact ⟨trivial, (by trivial), trivial, by omega, any_of_get hkl hm⟩
 ·rename_i h
  have hkl : ¬ k < l.length := by simpa using h
  exact ⟨trivial, (by trivial), trivial, by rw [take_all hkl] at ht; exact ht⟩
theorem idxCOk : LoopOk PP 209 19 (.loop (loopBody PP 209 2)) (uSj) := loop_ok uQy  mixed (KL_ok (cc_cons cwneCc (cc_nil))) rfl (steps_cons idxCStep (steps_nil))
noncomputable def uTh : Tel uKp := .cons 0 (.lst Ell) (.cons 1 (.fnp 208 []) (.nil))
theorem anyCFn (l : List (List Int)) (Q : AV → Prop) : (callW PP (runW PP (KL [] [(209, [(2, uSj)])]) 200) 140 (uTh.cells id (l, (), ())) (stE false) (fun x st => frzW st x Q)) = ( LoopOk PP 209 19 (loopBody PP 209 2).loop uSj ∧ True ∧ True ∧ ∃ l_1, Wv Ell l l_1 ∧ true = true ∧ uId ((l_1, (), Int.ofNat l.length, 0, ()), ()) ∧ (∀ (c d : Unit), uN1 ((l_1, (), Int.ofNat l.length, 0, ()), ()) c d → Q (AV.bool false)) ∧ (∀ c d, uN0 ((l_1, (), Int.ofNat l.length, 0, ()), ()) c d → ifp (leInt 0 c.1) (Q (AV.bool true)) (Q (AV.bool false))) ∧ True) := by kernel_rfl
def uJ4 : (List (List Int)) × Unit × Unit → Prop := fun (l, (), ()) => l.length ≤ 4194304
noncomputable def uPx : (List (List Int)) × Unit × Unit → AV := fun (l, (), ()) => .bool (l.any fun v => decide (cw v ≠ 0))
noncomputable def uTi : CallC := valC uTh uJ4 uPx
theorem anyCVal (l : List (List Int)) (hp : uJ4 (l, (), ())) : Val PP 140 (uTh.cells id (l, (), ())) (uPx (l, (), ())) := by
 refine Val.ofF mixed (KL_ok (cc_nil)) (freesC rfl _) (anyCFn l) ?_
 refine ⟨idxCOk, trivial, trivial, l, Wk.refl _, rfl, ⟨0, rfl, rfl, Nat.zero_le _, hp, trivial, rfl⟩, fun _ _ hr => ?_, fun c _ hr => ?_, trivial⟩
 ·exact tells_bool (Eq.symm hr.2)
 ·obtain ⟨r, _⟩ := c
  obtain ⟨_, h0, hf⟩ := hr
  rw [ifp_le, if_pos h0]
  exact tells_bool hf.symm
theorem anyCCc : CcOk PP 140 uTi := val_ok rfl (fun ⟨l, ⟨_, _⟩⟩ h => anyCVal l h)
abbrev uDz := uEt × (uAp × Unit)
noncomputable def uNp : Tel uEt := .cons 0 (.lst Ell) (.cons 1 (.fnp 246 [0]) (.ji 7 (.ji 8 (.nil))))
noncomputable abbrev uCy := Bk.row (.ji 0 (.nil))
noncomputable def uNt : BTel (uAp × Unit) := .cons uCy (.nil)
noncomputable def uNs : List (LForm uDz) := [⟨_, _, uNp, uNt, fun x y => (x, y)⟩]
abbrev uCd := uAp × Unit
noncomputable def uFo (R0 : uDz → (Unit) → uCd → Prop) (R1 : uDz → uAp → uCd → Prop) : List (Alt uDz) := [⟨.exit 0, Unit, uCd, .nil, .cons uCy (.nil), R0⟩, ⟨.ret, Int × Unit, uCd, .ji 4 (.nil), .cons uCy (.nil), R1⟩]
theorem idxSForm (l : List (List Int)) (n i w : Int) (N : uDz → Prop) (R0 : uDz → (Unit) → uCd → Prop) (R1 : uDz → uAp → uCd → Prop) : ((runW PP (KL [] []) 100).code none 209 19 (loopBody PP 209 2) (mkT (uNp.av id (l, (), n, i, ()))) [] (stL false (uNt.obs id ((w, ()), ()))) (postL 1 uNs (uFo R0 R1) ((l, (), n, i, ()), (w, ()), ()) N)) = ( ifp (!leInt n i) (idxOk i l.length ∧ ∃ l' n_1 c x w_1 e, nth ((natOf i).mul 1) (l.flatMap Ell.f) = some (AV.vs l' n_1 c x w_1 e) ∧ ifp (!eqInt (Int.ofNat n_1) w) (True ∧ true = true ∧ R1 ((l, (), n, i, ()), (w, ()), ()) (i, ()) ((w, ()), ())) (True ∧ ∃ l_1, Wv Ell l l_1 ∧ true = true ∧ N ((l_1, (), n, wrapF .i64 (i.add 1), ()), (w, ()), ()))) (True ∧ true = true ∧ R0 ((l, (), n, i, ()), (w, ()), ()) () ((w, ()), ()))) := by kernel_rfl
def uIb : uDz → Prop := fun ((l, (), n, i, ()), (w, ()), ()) => ∃ k : Nat, i = k ∧ n = l.length ∧ k ≤ l.length ∧ l.length ≤ 4194304 ∧ (True) ∧ (l.take k).any (fun v => decide ((v.length : Int) ≠ w)) = false
def uQw : uDz → Nat := fun ((l, (), n, i, ()), (w, ()), ()) => l.length - i.toNat
def uNr : uDz → (Unit) → uCd → Prop := fun ((l, (), n, i, ()), (w, ()), ()) _ ((w2, _), _) => w2 = w ∧ l.any (fun v => decide ((v.length : Int) ≠ w)) = false
def uNq : uDz → uAp → uCd → Prop := fun ((l, (), n, i, ()), (w, ()), ()) (r, _) ((w2, _), _) => w2 = w ∧ 0 ≤ r ∧ l.any (fun v => decide ((v.length : Int) ≠ w)) = true
noncomputable def uP6 : LoopC := loopC 1 uNs (uFo uNr uNq) uIb
theorem idxSStep : stepsOk PP (KL [] []) 100 209 19 (loopBody PP 209 2) 1 false uNs (uFo uNr uNq) uIb uQw ⟨_, _, uNp, uNt, fun x y => (x, y)⟩ := by
 intro x y hz
 obtain ⟨l, _, n, i, _⟩ := x
 obtain ⟨⟨w, _⟩, _⟩ := y
 refine (idxSForm l n i w _ _ _).mpr ?_
 obtain ⟨k, rfl, rfl, hk, hl, hx, ht⟩ := hz
 rw [ifp_lt]
 simp only [natOf_nat]
 split
 ·rename_i h
  have hkl : k < l.length := by simpa using h
  refine ⟨idx_ok hkl, _, _, _, _, _, _, nth_lst hkl, ?_⟩
  rw [show (!eqInt (Int.ofNat l[k].length) w) = decide ((l[k].length : Int) ≠ w) by rw [eqInt_eq]; by_cases h9 : (l[k].length : Int) = w <;> simp [h9]]
  cases hm : decide ((l[k].length : Int) ≠ w) with
  | false =>
   rw [ifp_neg rfl]
   refine ⟨trivial, l, Wk.refl _, (by trivial), ?_⟩
   rw [wsucc (by omega)]
   exact ⟨⟨k + 1, rfl, rfl, hkl, hl, hx, by rw [any_take_succ hkl, ht, hm]; rfl⟩, by show l.length - (k + 1) < l.length - k; omega, fun _ _ h => h, fun _ _ h => h, trivial⟩
  | true =>
   rw [ifp_pos rfl]
   exact ⟨trivial, (by trivial), rfl, by omega, any_of_get hkl hm⟩
 ·rename_i h
  have hkl : ¬ k < l.length := by simpa using h
  exact ⟨trivial, (by trivial), rfl, by rw [take_all hkl] at ht; exact ht⟩
theorem idxSOk : LoopOk PP 209 19 (.loop (loopBody PP 209 2)) (uP6) := loop_ok uQw  mixed (KL_ok (cc_nil)) rfl (steps_cons idxSStep (steps_nil))
abbrev uLr := uKp × uCd
noncomputable def uTe : Tel uKp := .cons 0 (.lst Ell) (.cons 1 (.fnp 246 [0]) (.nil))
noncomputable def uPv : BTel uCd := .cons uCy (.nil)
noncomputable def uJ2 (R0 : uLr → (Bool × Unit) → uCd → Prop) : List (Res uLr) := [⟨Bool × Unit, uCd, .cons 0 (.bool) (.nil), .cons uCy (.nil), R0⟩]
theorem anySFn (l : List (List Int)) (w : Int) (R0 : uLr → (Bool × Unit) → uCd → Prop) : (callW PP (runW PP (KL [] [(209, [(2, uP6)])]) 200) 140 (uTe.cells id (l, (), ())) (stL false (uPv.obs id ((w, ()), ()))) (fun v st => resAny 1 ((l, (), ()), (w, ()), ()) v st (uJ2 R0))) = ( LoopOk PP 209 19 (loopBody PP 209 2).loop uP6 ∧ True ∧ True ∧ ∃ l_1, Wv Ell l l_1 ∧ true = true ∧ uIb ((l_1, (), Int.ofNat l.length, 0, ()), (w, ()), ()) ∧ (∀ c d, uNr ((l_1, (), Int.ofNat l.length, 0, ()), (w, ()), ()) c d → true = true ∧ R0 ((l, (), ()), (w, ()), ()) (false, ()) ((d.1.1, ()), ())) ∧ (∀ c d, uNq ((l_1, (), Int.ofNat l.length, 0, ()), (w, ()), ()) c d → ifp (leInt 0 c.1) (true = true ∧ R0 ((l, (), ()), (w, ()), ()) (true, ()) ((d.1.1, ()), ())) (true = true ∧ R0 ((l, (), ()), (w, ()), ()) (false, ()) ((d.1.1, ()), ()))) ∧ True) := by kernel_rfl
def uJ3 : uLr → Prop := fun ((l, (), ()), (w, ()), ()) => l.length ≤ 4194304
def uPu : uLr → (Bool × Unit) → uCd → Prop := fun ((l, (), ()), (w, ()), ()) (r, _) ((w2, _), _) => r = l.any (fun v => decide ((v.length : Int) ≠ w)) ∧ w2 = w
noncomputable def uTf : CallC := callC 1 uTe uPv uJ3 (uJ2 uPu)
theorem anySStep (z : uLr) (hp : uJ3 z) : callW PP (runW PP (KL [] [(209, [(2, uP6)])]) 200) 140 (uTe.cells id z.1) (stL false (uPv.obs id z.2)) (fun v st => resAny 1 z v st (uJ2 uPu)) := by
 obtain ⟨⟨l, _, _⟩, ⟨⟨w, _⟩, _⟩⟩ := z
 refine (anySFn l w _).mpr ?_
 refine ⟨idxSOk, trivial, trivial, l, Wk.refl _, rfl, ⟨0, rfl, rfl, Nat.zero_le _, hp, trivial, rfl⟩, fun _ d hr => ?_, fun c d hr => ?_, trivial⟩
 ·obtain ⟨⟨w2, _⟩, _⟩ := d
  obtain ⟨hw, hf⟩ := hr
  exact ⟨(by trivial), hf.symm, hw⟩
 ·obtain ⟨r, _⟩ := c
  obtain ⟨⟨w2, _⟩, _⟩ := d
  obtain ⟨hw, h0, hf⟩ := hr
  rw [ifp_le, if_pos h0]
  exact ⟨(by trivial), hf.symm, hw⟩
theorem anySCc : CcOk PP 140 uTf := call_ok mixed (KL_ok (cc_nil)) rfl anySStep
abbrev uMf := (List (List (List Int))) × Unit
abbrev uDy := ((List (List (List Int))) × Unit × Int × Int × Unit) × (uMf × uAp × Unit)
noncomputable def uNk : Tel ((List (List (List Int))) × Unit × Int × Int × Unit) := .cons 0 (.lst Ecs) (.cons 1 (.fnp 245 [0, 1]) (.ji 7 (.ji 8 (.nil))))
noncomputable abbrev uMg := Bk.row (.cons 0 (.lst Ecs) (.nil))
noncomputable def uNo : BTel (uMf × uAp × Unit) := .cons uMg (.cons uCy (.nil))
noncomputable def uNn : List (LForm uDy) := [⟨_, _, uNk, uNo, fun x y => (x, y)⟩]
abbrev uGy := uMf × uAp × Unit
noncomputable def uFn (R0 : uDy → (Unit) → uGy → Prop) (R1 : uDy → uAp → uGy → Prop) : List (Alt uDy) := [⟨.exit 0, Unit, uGy, .nil, .cons uMg (.cons uCy (.nil)), R0⟩, ⟨.ret, Int × Unit, uGy, .ji 4 (.nil), .cons uMg (.cons uCy (.nil)), R1⟩]
theorem idxTForm (l : List (List (List Int))) (n i : Int) (b : List (List (List Int))) (w : Int) (N : uDy → Prop) (R0 : uDy → (Unit) → uGy → Prop) (R1 : uDy → uAp → uGy → Prop) : ((runW PP (KL [(140, uTf)] []) 100).code none 257 19 (loopBody PP 257 2) (mkT (uNk.av id (l, (), n, i, ()))) [] (stL false (uNo.obs id ((b, ()), (w, ()), ()))) (postL 2 uNn (uFn R0 R1) ((l, (), n, i, ()), (b, ()), (w, ()), ()) N)) = ( ifp (!leInt n i) (idxOk i l.length ∧ ∃ l' n_1 c x w_1 e, nth ((natOf i).mul 1) (l.flatMap Ecs.f) = some (AV.vs l' n_1 c x w_1 e) ∧ idxOk 0 b.length ∧ ∃ (l'_1 : List AV), ∃ (n_2 : Nat), ∃ (c_1 : Nat), ∃ (x_1 : Bool), ∃ (w_2 : Option Nat), ∃ (e_1 : Nat), nth 0 (b.flatMap Ecs.f) = some (AV.vs l'_1 n_2 c_1 x_1 w_2 e_1) ∧ ifp (!eqInt (Int.ofNat n_1) (Int.ofNat n_2)) (True ∧ ∃ l_1, Wv Ecs b l_1 ∧ true = true ∧ R1 ((l, (), n, i, ()), (b, ()), (w, ()), ()) (i, ()) ((l_1, ()), (w, ()), ())) (∃ (l_1 : List (List Int)), Wk (AV.vs l' n_1 c x w_1 e) (lst Ell l_1) ∧ true = true ∧ uJ3 ((l_1, (), ()), (w, ()), ()) ∧ (∀ c d, uPu ((l_1, (), ()), (w, ()), ()) c d → ifp c.1 (True ∧ ∃ l_2, Wv Ecs b l_2 ∧ true = true ∧ R1 ((l, (), n, i, ()), (b, ()), (w, ()), ()) (i, ()) ((l_2, ()), (d.1.1, ()), ())) (True ∧ ∃ l_2, Wv Ecs l l_2 ∧ ∃ l, Wv Ecs b l ∧ true = true ∧ N ((l_2, (), n, wrapF .i64 (i.add 1), ()), (l, ()), (d.1.1, ()), ()))) ∧ True)) (True ∧ ∃ l_1, Wv Ecs b l_1 ∧ true = true ∧ R0 ((l, (), n, i, ()), (b, ()), (w, ()), ()) () ((l_1, ()), (w, ()), ()))) := by kernel_rfl
def uIa : uDy → Prop := fun ((l, (), n, i, ()), (b, ()), (w, ()), ()) => ∃ k : Nat, i = k ∧ n = l.length ∧ k ≤ l.length ∧ l.length ≤ 4194304 ∧ (0 < b.length ∧ ∀ x ∈ l, x.length ≤ 4194304) ∧ (l.take k).any (fun l2 => decide ((l2.length : Int) ≠ ((b.headD []).length : Int)) || l2.any fun v => decide ((v.length : Int) ≠ w)) = false
def uQv : uDy → Nat := fun ((l, (), n, i, ()), (b, ()), (w, ()), ()) => l.length - i.toNat
def uNm : uDy → (Unit) → uGy → Prop := fun ((l, (), n, i, ()), (b, ()), (w, ()), ()) _ ((b2, _), (w2, _), _) => (b2 = b ∧ w2 = w) ∧ l.any (fun l2 => decide ((l2.length : Int) ≠ ((b.headD []).length : Int)) || l2.any fun v => decide ((v.length : Int) ≠ w)) = false
def uNl : uDy → uAp → uGy → Prop := fun ((l, (), n, i, ()), (b, ()), (w, ()), ()) (r, _) ((b2, _), (w2, _), _) => (b2 = b ∧ w2 = w) ∧ 0 ≤ r ∧ l.any (fun l2 => decide ((l2.length : Int) ≠ ((b.headD []).length : Int)) || l2.any fun v => decide ((v.length : Int) ≠ w)) = true
noncomputable def uSh : LoopC := loopC 2 uNn (uFn uNm uNl) uIa
theorem idxTStep : stepsOk PP (KL [(140, uTf)] []) 100 257 19 (loopBody PP 257 2) 2 false uNn (uFn uNm uNl) uIa uQv ⟨_, _, uNk, uNo, fun x y => (x, y)⟩ := by
 intro x y hz
 obtain ⟨l, _, n, i, _⟩ := x
 obtain ⟨⟨b, _⟩, ⟨w, _⟩, _⟩ := y
 refine (idxTForm l n i b w _ _ _).mpr ?_
 obtain ⟨k, rfl, rfl, hk, hl, ⟨hb, hx⟩, ht⟩ := hz
 rw [ifp_lt]
 simp only [natOf_nat]
 have hh : b[0] = b.headD [] := by cases b with | nil => simp at hb | cons a l => rfl
 split
 ·rename_i h
  have hkl : k < l.length := by simpa using h
  refine ⟨idx_ok hkl, _, _, _, _, _, _, nth_lst hkl, idx_ok0 hb, _, _, _, _, _, _, nth_lst0 hb, ?_⟩
  rw [ifp_ne]
  split
  ·rename_i h1
   have h1' : (l[k].length : Int) = ((b.headD []).length : Int) := by rw [← hh]; exact h1
   refine ⟨l[k], Wk.refl _, (by trivial), hx _ (List.getElem_mem hkl), fun c d hr => ?_, trivial⟩
   obtain ⟨r, _⟩ := c
   obtain ⟨⟨w2, _⟩, _⟩ := d
   obtain ⟨hr, hw⟩ := hr
   obtain rfl : w = w2 := hw.symm
   obtain rfl : r = l[k].any (fun v => decide ((v.length : Int) ≠ w)) := hr
   dsimp only
   cases hm : l[k].any (fun v => decide ((v.length : Int) ≠ w)) with
   | false =>
    rw [ifp_neg rfl]
    refine ⟨trivial, l, Wk.refl _, b, Wk.refl _, (by trivial), ?_⟩
    rw [wsucc (by omega)]
    exact ⟨⟨k + 1, rfl, rfl, hkl, hl, ⟨hb, hx⟩, by rw [any_take_succ hkl, ht, hm]; simp [h1']⟩, by show l.length - (k + 1) < l.length - k; omega, fun _ _ h => h, fun _ _ h => h, trivial⟩
   | true =>
    rw [ifp_pos rfl]
    exact ⟨trivial, b, Wk.refl _, (by trivial), ⟨rfl, rfl⟩, by omega, any_of_get hkl (by rw [hm]; simp)⟩
  ·rename_i h1
   have h1' : (l[k].length : Int) ≠ ((b.headD []).length : Int) := by rw [← hh]; exact h1
   exact ⟨trivial, b, Wk.refl _, (by trivial), ⟨rfl, rfl⟩, by omega, any_of_get hkl (by simp only [decide_eq_true h1', Bool.true_or])⟩
 ·rename_i h
  have hkl : ¬ k < l.length := by simpa using h
  exact ⟨trivial, b, Wk.refl _, (by trivial), ⟨rfl, rfl⟩, by rw [take_all hkl] at ht; exact ht⟩
theorem idxTOk : LoopOk PP 257 19 (.loop (loopBody PP 257 2)) (uSh) := loop_ok uQv  mixed (KL_ok (cc_cons anySCc (cc_nil))) rfl (steps_cons idxTStep (steps_nil))
def wdB (W : List (List (List Int))) : Nat := ((W.headD []).headD []).length
def uA6 (W : List (List (List Int))) : Bool := decide (1 ≤ W.length ∧ W.length ≤ 1024 ∧ 1 ≤ (W.headD []).length ∧ (W.headD []).length ≤ 256 ∧ 1 ≤ wdB W ∧ wdB W ≤ 1024 ∧ wdB W * W.length ≤ 1024) &&
 !(W.any fun l2 => decide ((l2.length : Int) ≠ ((W.headD []).length : Int)) || l2.any fun v => decide ((v.length : Int) ≠ (wdB W : Int)))
def uBf (W : List (List (List Int))) : Int := if uA6 W = false then 2 else if W.any (fun l2 => l2.any fun v => decide (cw v ≠ 0)) = true then 11 else 0
noncomputable def uHg : Tel (Bk × Unit) := .cons 0 (.aggW Ebk) (.nil)
theorem shapedFn (b : Bk) (Q : AV → Prop) : (callW PP (runW PP (KL [] [(257, [(2, uSh)])]) 200) 207 (uHg.cells id (b, ())) (stE false) (fun x st => frzW st x Q)) = ( ifp (!leInt 1 (Int.ofNat b.1.length)) (Q (AV.bool false)) (ifp (!leInt (Int.ofNat b.1.length) 1024) (Q (AV.bool false)) (idxOk 0 b.1.length ∧ ∃ l' n c x w e, nth 0 (List.flatMap Ecs.f b.1) = some (AV.vs l' n c x w e) ∧ ifp (!leInt 1 (Int.ofNat n)) (Q (AV.bool false)) (idxOk 0 b.1.length ∧ ∃ l' n c x w e, nth 0 (List.flatMap Ecs.f b.1) = some (AV.vs l' n c x w e) ∧ ifp (!leInt (Int.ofNat n) 256) (Q (AV.bool false)) (idxOk 0 b.1.length ∧ ∃ l' n c x w e, nth 0 (List.flatMap Ecs.f b.1) = some (AV.vs l' n c x w e) ∧ ifp (Nat.beq 1 e) (idxOk 0 n ∧ ∃ (l'_1 : List AV), ∃ (n : Nat), ∃ (c : Nat), ∃ (x : Bool), ∃ (w : Option Nat), ∃ (e : Nat), nth 0 l' = some (AV.vs l'_1 n c x w e) ∧ ifp (!leInt 1 (Int.ofNat n)) (Q (AV.bool false)) (ifp (!leInt (Int.ofNat n) 1024) (Q (AV.bool false)) (ifp (!leInt (wrapF .i64 ((Int.ofNat n).mul (Int.ofNat b.1.length))) 1024) (Q (AV.bool false)) (LoopOk PP 257 19 (loopBody PP 257 2).loop uSh ∧ True ∧ True ∧ ∃ l, Wv Ecs b.1 l ∧ ∃ l_1, Wv Ecs b.1 l_1 ∧ true = true ∧ uIa ((l, (), Int.ofNat b.1.length, 0, ()), (l_1, ()), (Int.ofNat n, ()), ()) ∧ (∀ c d, uNm ((l, (), Int.ofNat b.1.length, 0, ()), (l_1, ()), (Int.ofNat n, ()), ()) c d → Q (AV.bool true)) ∧ (∀ c d, uNl ((l, (), Int.ofNat b.1.length, 0, ()), (l_1, ()), (Int.ofNat n, ()), ()) c d → ifp (leInt 0 c.1) (Q (AV.bool false)) (Q (AV.bool true))) ∧ True)))) False))))) := by kernel_rfl
def uDh : Bk × Unit → Prop := fun (b, ()) => ∀ x ∈ b.1, x.length ≤ 4194304
noncomputable def uGs : Bk × Unit → AV := fun (b, ()) => .bool (uA6 b.1)
noncomputable def uLu : CallC := valC uHg uDh uGs
theorem shapedVal (b : Bk) (hp : uDh (b, ())) : Val PP 207 (uHg.cells id (b, ())) (uGs (b, ())) := by
 refine Val.ofF mixed (KL_ok (cc_nil)) (freesC rfl _) (shapedFn b) ?_
 obtain ⟨W, _⟩ := b
 have hx : ∀ x ∈ W, x.length ≤ 4194304 := hp
 dsimp only
 cases W with
 | nil => rw [ifp_lt, if_pos (by decide)]; exact tells_bool rfl
 | cons a W =>
  have no : ¬ (1 ≤ (a :: W).length ∧ (a :: W).length ≤ 1024 ∧ 1 ≤ a.length ∧ a.length ≤ 256 ∧ 1 ≤ (a.headD []).length ∧ (a.headD []).length ≤ 1024 ∧ (a.headD []).length * (a :: W).length ≤ 1024) → false = uA6 (a :: W) := fun h => by
   show false = (decide (1 ≤ (a :: W).length ∧ (a :: W).length ≤ 1024 ∧ 1 ≤ a.length ∧ a.length ≤ 256 ∧ 1 ≤ (a.headD []).length ∧ (a.headD []).length ≤ 1024 ∧ (a.headD []).length * (a :: W).length ≤ 1024) && _)
   rw [decide_eq_false h]; rfl
  have yes : (1 ≤ (a :: W).length ∧ (a :: W).length ≤ 1024 ∧ 1 ≤ a.length ∧ a.length ≤ 256 ∧ 1 ≤ (a.headD []).length ∧ (a.headD []).length ≤ 1024 ∧ (a.headD []).length * (a :: W).length ≤ 1024) →
    (a :: W).any (fun l2 => decide ((l2.length : Int) ≠ (a.length : Int)) || l2.any fun v => decide ((v.length : Int) ≠ ((a.headD []).length : Int))) = false → true = uA6 (a :: W) := fun h h2 => by
   show true = (decide (1 ≤ (a :: W).length ∧ (a :: W).length ≤ 1024 ∧ 1 ≤ a.length ∧ a.length ≤ 256 ∧ 1 ≤ (a.headD []).length ∧ (a.headD []).length ≤ 1024 ∧ (a.headD []).length * (a :: W).length ≤ 1024) && !((a :: W).any fun l2 => decide ((l2.length : Int) ≠ (a.length : Int)) || l2.any fun v => decide ((v.length : Int) ≠ ((a.headD []).length : Int))))
   rw [decide_eq_true h, h2]; rfl
  have no2 : (a :: W).any (fun l2 => decide ((l2.length : Int) ≠ (a.length : Int)) || l2.any fun v => decide ((v.length : Int) ≠ ((a.headD []).length : Int))) = true → false = uA6 (a :: W) := fun h2 => by
   show false = (_ && !((a :: W).any fun l2 => decide ((l2.length : Int) ≠ (a.length : Int)) || l2.any fun v => decide ((v.length : Int) ≠ ((a.headD []).length : Int))))
   rw [h2]; simp
  have g0 : nth 0 ((a :: W).flatMap Ecs.f) = some (lst Ell a) := nth_lst0 (l := a :: W) (by simp)
  have hl : 0 < (a :: W).length := by simp
  rw [ifp_lt, if_neg (by simp only [Int.ofNat_eq_natCast]; omega), ifp_lt]
  split
  ·rename_i h; exact tells_bool (no (by rintro ⟨_, h9, _⟩; simp only [Int.ofNat_eq_natCast] at h; omega))
  ·rename_i h1
   refine ⟨idx_ok0 hl, _, _, _, _, _, _, g0, ?_⟩
   rw [ifp_lt]
   split
   ·rename_i h; exact tells_bool (no (by rintro ⟨_, _, h9, _⟩; simp only [Int.ofNat_eq_natCast] at h; omega))
   ·rename_i h2
    refine ⟨idx_ok0 hl, _, _, _, _, _, _, g0, ?_⟩
    rw [ifp_lt]
    split
    ·rename_i h; exact tells_bool (no (by rintro ⟨_, _, _, h9, _⟩; simp only [Int.ofNat_eq_natCast] at h; omega))
    ·rename_i h3
     have ha : 0 < a.length := by simp only [Int.ofNat_eq_natCast] at h2; omega
     have hw : a[0] = a.headD [] := by cases a with | nil => simp at ha | cons v a => rfl
     have g1 : nth 0 (a.flatMap Ell.f) = some (lst Ei32 (a.headD [])) := by rw [← hw]; exact nth_lst0 (l := a) ha
     refine ⟨idx_ok0 hl, _, _, _, _, _, _, g0, ?_⟩
     rw [ifp_pos (show Nat.beq 1 Ell.e = true from rfl)]
     refine ⟨idx_ok0 ha, _, _, _, _, _, _, g1, ?_⟩
     rw [ifp_lt]
     split
     ·rename_i h; exact tells_bool (no (by rintro ⟨_, _, _, _, h9, _⟩; simp only [Int.ofNat_eq_natCast] at h; omega))
     ·rename_i h4
      rw [ifp_lt]
      split
      ·rename_i h; exact tells_bool (no (by rintro ⟨_, _, _, _, _, h9, _⟩; simp only [Int.ofNat_eq_natCast] at h; omega))
      ·rename_i h5
       simp only [Int.ofNat_eq_natCast] at h1 h2 h3 h4 h5
       have hm : (a.headD []).length * (a :: W).length ≤ 1024 * 1024 := Nat.mul_le_mul (by omega) (by omega)
       have e : wrapF .i64 (Int.mul (Int.ofNat (a.headD []).length) (Int.ofNat (a :: W).length)) = (((a.headD []).length * (a :: W).length : Nat) : Int) := by
        have e0 : Int.mul (Int.ofNat (a.headD []).length) (Int.ofNat (a :: W).length) = (((a.headD []).length * (a :: W).length : Nat) : Int) := rfl
        rw [e0, w64 (by omega) (by omega)]
       rw [e, ifp_lt]
       split
       ·rename_i h; exact tells_bool (no (by rintro ⟨_, _, _, _, _, _, h9⟩; omega))
       ·rename_i h6
        refine ⟨idxTOk, trivial, trivial, a :: W, Wk.refl _, a :: W, Wk.refl _, (by trivial), ⟨0, rfl, rfl, Nat.zero_le _, by omega, ⟨hl, hx⟩, rfl⟩, fun _ d hr => ?_, fun c d hr => ?_, trivial⟩
        ·obtain ⟨⟨b2, _⟩, ⟨w2, _⟩, _⟩ := d
         have hr2 : (a :: W).any (fun l2 => decide ((l2.length : Int) ≠ (a.length : Int)) || l2.any fun v => decide ((v.length : Int) ≠ ((a.headD []).length : Int))) = false := hr.2
         exact tells_bool (yes ⟨by omega, by omega, ha, by omega, by omega, by omega, by omega⟩ hr2)
        ·obtain ⟨r, _⟩ := c
         obtain ⟨⟨b2, _⟩, ⟨w2, _⟩, _⟩ := d
         obtain ⟨_, h0, hr⟩ := hr
         have hr2 : (a :: W).any (fun l2 => decide ((l2.length : Int) ≠ (a.length : Int)) || l2.any fun v => decide ((v.length : Int) ≠ ((a.headD []).length : Int))) = true := hr
         rw [ifp_le, if_pos h0]
         exact tells_bool (no2 hr2)
theorem shapedCc : CcOk PP 207 uLu := val_ok rfl (fun ⟨b, _⟩ h => shapedVal b h)
abbrev uEk := ((List (List (List Int))) × Int × Int × Unit) × (Unit)
noncomputable def uPe : Tel ((List (List (List Int))) × Int × Int × Unit) := .cons 9 (.lst Ecs) (.ji 10 (.ji 11 (.nil)))
noncomputable def uPk : BTel (Unit) := .nil
noncomputable def uPj : List (LForm uEk) := [⟨_, _, uPe, uPk, fun x y => (x, y)⟩]
noncomputable def uGl (R0 : uEk → (Unit) → (Unit) → Prop) (R1 : uEk → (Unit × Unit) → (Unit) → Prop) : List (Alt uEk) := [⟨.exit 0, Unit, Unit, .nil, .nil, R0⟩, ⟨.ret, Unit × Unit, Unit, .cons 2 (.num .i64 11) (.nil), .nil, R1⟩]
theorem bchkForm (l : List (List (List Int))) (n i : Int) (N : uEk → Prop) (R0 : uEk → (Unit) → (Unit) → Prop) (R1 : uEk → (Unit × Unit) → (Unit) → Prop) : ((runW PP (KL [(140, uTi)] []) 100).code none 138 18 (loopBody PP 138 4) (mkT (uPe.av id (l, n, i, ()))) [] (stL false (uPk.obs id ())) (postL 0 uPj (uGl R0 R1) ((l, n, i, ()), ()) N)) = ( ifp (!leInt n i) (idxOk i l.length ∧ ∃ l' n_1 c x w e, nth ((natOf i).mul 1) (l.flatMap Ecs.f) = some (AV.vs l' n_1 c x w e) ∧ ∃ (l_1 : List (List Int)), Wk (AV.vs l' n_1 c x w e) (lst Ell l_1) ∧ uJ4 (l_1, (), ()) ∧ ifp (l_1.any fun (v : List Int) => decide (cw v ≠ 0)) (True ∧ true = true ∧ R1 ((l, n, i, ()), ()) ((), ()) ()) (True ∧ ∃ l_2, Wv Ecs l l_2 ∧ true = true ∧ N ((l_2, n, wrapF .i64 (i.add 1), ()), ()))) (True ∧ true = true ∧ R0 ((l, n, i, ()), ()) () ())) := by kernel_rfl
def uJq : uEk → Prop := fun ((l, n, i, ()), ()) => ∃ k : Nat, i = k ∧ n = l.length ∧ k ≤ l.length ∧ l.length ≤ 1024 ∧ (∀ x ∈ l, x.length ≤ 4194304) ∧ (l.take k).any (fun l2 => l2.any fun v => decide (cw v ≠ 0)) = false
def uRf : uEk → Nat := fun ((l, n, i, ()), ()) => l.length - i.toNat
def uPh : uEk → (Unit) → (Unit) → Prop := fun ((l, n, i, ()), ()) _ _ => l.any (fun l2 => l2.any fun v => decide (cw v ≠ 0)) = false
def uPg : uEk → (Unit × Unit) → (Unit) → Prop := fun ((l, n, i, ()), ()) _ _ => l.any (fun l2 => l2.any fun v => decide (cw v ≠ 0)) = true
noncomputable def uS9 : LoopC := loopC 0 uPj (uGl uPh uPg) uJq
theorem bchkStep : stepsOk PP (KL [(140, uTi)] []) 100 138 18 (loopBody PP 138 4) 0 false uPj (uGl uPh uPg) uJq uRf ⟨_, _, uPe, uPk, fun x y => (x, y)⟩ := by
 intro x y hz
 obtain ⟨l, n, i, _⟩ := x
 obtain _ := y
 refine (bchkForm l n i _ _ _).mpr ?_
 obtain ⟨k, rfl, rfl, hk, hl, hx, ht⟩ := hz
 rw [ifp_lt]
 simp only [natOf_nat]
 split
 ·rename_i h
  have hkl : k < l.length := by simpa using h
  refine ⟨idx_ok hkl, _, _, _, _, _, _, nth_lst hkl, l[k], Wk.refl _, hx _ (List.getElem_mem hkl), ?_⟩
  cases hm : l[k].any (fun v => decide (cw v ≠ 0)) with
  | false =>
   rw [ifp_neg rfl]
   refine ⟨trivial, l, Wk.refl _, (by trivial), ?_⟩
   rw [wsucc (by omega)]
   exact ⟨⟨k + 1, rfl, rfl, hkl, hl, hx, by rw [any_take_succ hkl, ht, hm]; rfl⟩, by show l.length - (k + 1) < l.length - k; omega, fun _ _ h => h, fun _ _ h => h, trivial⟩
  | true =>
   rw [ifp_pos rfl]
   exact ⟨trivial, (by trivial), any_of_get hkl hm⟩
 ·rename_i h
  have hkl : ¬ k < l.length := by simpa using h
  exact ⟨trivial, (by trivial), by rw [take_all hkl] at ht; exact ht⟩
theorem bchkOk : LoopOk PP 138 18 (.loop (loopBody PP 138 4)) (uS9) := loop_ok uRf  mixed (KL_ok (cc_cons anyCCc (cc_nil))) rfl (steps_cons bchkStep (steps_nil))
theorem uAu {W : List (List (List Int))} (h : uA6 W = true) : (1 ≤ W.length ∧ W.length ≤ 1024 ∧ 1 ≤ (W.headD []).length ∧ (W.headD []).length ≤ 256 ∧ 1 ≤ wdB W ∧ wdB W ≤ 1024 ∧ wdB W * W.length ≤ 1024) ∧ ∀ l ∈ W, l.length = (W.headD []).length ∧ ∀ v ∈ l, v.length = wdB W := by
 rw [uA6, Bool.and_eq_true, decide_eq_true_iff] at h
 refine ⟨h.1, fun l hl => ?_⟩
 have h2 := h.2
 rw [Bool.not_eq_true', List.any_eq_false] at h2
 have h3 := h2 l hl
 rw [Bool.not_eq_true, Bool.or_eq_false_iff, decide_eq_false_iff_not, List.any_eq_false] at h3
 refine ⟨by omega, fun v hv => ?_⟩
 have := h3.2 v hv
 simp at this; omega
theorem uBb {W : List (List (List Int))} (h : uBf W = 0) : uA6 W = true ∧ ∀ l ∈ W, ∀ v ∈ l, cw v = 0 := by
 rw [uBf] at h
 split at h
 ·cases h
 ·rename_i h1
  split at h
  ·cases h
  ·rename_i h2
   refine ⟨by simpa using h1, fun l hl v hv => ?_⟩
   rw [Bool.not_eq_true, List.any_eq_false] at h2
   have := h2 l hl
   rw [Bool.not_eq_true, List.any_eq_false] at this
   have := this v hv
   simpa using this
noncomputable def uS8 : Tel (Bk × Unit) := .cons 0 (.aggW Ebk) (.nil)
theorem bchkFn (b : Bk) (Q : AV → Prop) : (callW PP (runW PP (KL [(207, uLu)] [(138, [(4, uS9)])]) 200) 138 (uS8.cells id (b, ())) (stE false) (fun x st => frzW st x Q)) = ( ∃ (a : Bk), WkL [AV.vs (List.flatMap Ecs.f b.1) b.1.length b.1.length false none 1] (Ebk.f a) ∧ uDh (a, ()) ∧ ifp (uA6 a.1) (LoopOk PP 138 18 (loopBody PP 138 4).loop uS9 ∧ True ∧ True ∧ ∃ l, Wv Ecs b.1 l ∧ true = true ∧ uJq ((l, Int.ofNat b.1.length, 0, ()), ()) ∧ (∀ (c d : Unit), uPh ((l, Int.ofNat b.1.length, 0, ()), ()) c d → Q (I64 0)) ∧ (∀ c d, uPg ((l, Int.ofNat b.1.length, 0, ()), ()) c d → Q (I64 (Int.ofNat 11))) ∧ True) (Q (I64 2))) := by kernel_rfl
def uCv : Bk × Unit → Prop := fun (b, ()) => ∀ x ∈ b.1, x.length ≤ 4194304
noncomputable def uPf : Bk × Unit → AV := fun (b, ()) => .int .i64 (uBf b.1)
noncomputable def uPi : CallC := valC uS8 uCv uPf
theorem bchkVal (b : Bk) (hp : uCv (b, ())) : Val PP 138 (uS8.cells id (b, ())) (uPf (b, ())) := by
 refine Val.ofF mixed (KL_ok (cc_cons shapedCc (cc_nil))) (freesC rfl _) (bchkFn b) ?_
 obtain ⟨W, _⟩ := b
 have hx : ∀ x ∈ W, x.length ≤ 4194304 := hp
 refine ⟨(W, ()), WkL.refl _, hp, ?_⟩
 cases hs : uA6 W with
 | false => rw [ifp_neg rfl]; exact tells_int (by rw [uBf, if_pos hs])
 | true =>
  rw [ifp_pos rfl]
  obtain ⟨hc, _⟩ := uAu hs
  refine ⟨bchkOk, trivial, trivial, W, Wk.refl _, (by trivial), ⟨0, rfl, rfl, Nat.zero_le _, by omega, hx, rfl⟩, fun _ _ hr => ?_, fun _ _ hr => ?_, trivial⟩
  ·have hr' : W.any (fun l2 => l2.any fun v => decide (cw v ≠ 0)) = false := hr
   exact tells_int (by rw [uBf, if_neg (by rw [hs]; simp), if_neg (by rw [hr']; simp)])
  ·have hr' : W.any (fun l2 => l2.any fun v => decide (cw v ≠ 0)) = true := hr
   exact tells_int (by rw [uBf, if_neg (by rw [hs]; simp), if_pos hr']; rfl)
theorem uLk : CcOk PP 138 uPi := val_ok rfl (fun ⟨b, _⟩ h => bchkVal b h)
def uC8 (W : List (List (List Int))) : Int := if uBf W ≠ 0 then 0 else ((W.length * wdB W : Nat) : Int)
noncomputable def uS7 : Tel (Bk × Unit) := .cons 0 (.aggW Ebk) (.nil)
theorem bdimFn (b : Bk) (Q : AV → Prop) : (callW PP (runW PP (KL [(138, uPi)] []) 200) 139 (uS7.cells id (b, ())) (stE false) (fun x st => frzW st x Q)) = ( ∃ (a : Bk), WkL [AV.vs (List.flatMap Ecs.f b.1) b.1.length b.1.length false none 1] (Ebk.f a) ∧ uCv (a, ()) ∧ ifp (!eqInt (uBf a.1) 0) (Q (I64 0)) (idxOk 0 b.1.length ∧ ∃ l' n c x w e, nth 0 (List.flatMap Ecs.f b.1) = some (AV.vs l' n c x w e) ∧ ifp (Nat.beq 1 e) (idxOk 0 n ∧ ∃ (l'_1 : List AV), ∃ (n : Nat), ∃ (c : Nat), ∃ (x : Bool), ∃ (w : Option Nat), ∃ (e : Nat), nth 0 l' = some (AV.vs l'_1 n c x w e) ∧ True ∧ True ∧ True ∧ True ∧ True ∧ True ∧ Q (I64 (wrapF .i64 ((Int.ofNat b.1.length).mul (Int.ofNat n))))) False)) := by kernel_rfl
def uJp : Bk × Unit → Prop := fun (b, ()) => ∀ x ∈ b.1, x.length ≤ 4194304
noncomputable def uPd : Bk × Unit → AV := fun (b, ()) => .int .i64 (uC8 b.1)
noncomputable def uT2 : CallC := valC uS7 uJp uPd
theorem bdimVal (b : Bk) (hp : uJp (b, ())) : Val PP 139 (uS7.cells id (b, ())) (uPd (b, ())) := by
 refine Val.ofF mixed (KL_ok (cc_cons uLk (cc_nil))) (freesC rfl _) (bdimFn b) ?_
 obtain ⟨W, _⟩ := b
 refine ⟨(W, ()), WkL.refl _, hp, ?_⟩
 dsimp only
 rw [ifp_ne]
 split
 ·rename_i h
  obtain ⟨hs, _⟩ := uBb h
  obtain ⟨hc, hl⟩ := uAu hs
  cases W with
  | nil => simp at hc
  | cons a W =>
   have g0 : nth 0 ((a :: W).flatMap Ecs.f) = some (lst Ell a) := nth_lst0 (l := a :: W) (by simp)
   have ha : 0 < a.length := hc.2.2.1
   have hw : a[0] = a.headD [] := by cases a with | nil => simp at ha | cons v a => rfl
   have g1 : nth 0 (a.flatMap Ell.f) = some (lst Ei32 (a.headD [])) := by rw [← hw]; exact nth_lst0 (l := a) ha
   refine ⟨idx_ok0 (by simp), _, _, _, _, _, _, g0, ?_⟩
   rw [ifp_pos (show Nat.beq 1 Ell.e = true from rfl)]
   refine ⟨idx_ok0 ha, _, _, _, _, _, _, g1, trivial, trivial, trivial, trivial, trivial, trivial, ?_⟩
   have hm : (a :: W).length * (a.headD []).length ≤ 1024 * 1024 := Nat.mul_le_mul (by omega) hc.2.2.2.2.2.1
   have e0 : Int.mul (Int.ofNat (a :: W).length) (Int.ofNat (a.headD []).length) = (((a :: W).length * (a.headD []).length : Nat) : Int) := rfl
   exact tells_int (by rw [uC8, if_neg (by rw [h]; simp), e0, w64 (by omega) (by omega)]; rfl)
 ·rename_i h
  exact tells_int (by rw [uC8, if_pos h])
theorem bdimCc : CcOk PP 139 uT2 := val_ok rfl (fun ⟨b, _⟩ h => bdimVal b h)
end Go.Proofs.YtcnnjlhecndhnaaGreat
