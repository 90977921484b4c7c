/- Part of the proof of IndexBytes. -/
import Derived.Test.YtcnnjlhecndhnaaGreatRows
import Derived.Test.YtcnnjlhecndhnaaGreatDd
import Derived.ProofKit
import Derived.Test.YtcnnjlhecndhnaaGreatPa
set_option linter.unusedVariables false
set_option linter.unusedSimpArgs false
namespace Go.Proofs.YtcnnjlhecndhnaaGreat
open Go.Det Go.RowKit
set_option maxRecDepth 100000
theorem uB0 {α : Type} {l : List (List α)} {b : Nat} (h : ∀ x ∈ l, x.length ≤ b) : l.flatten.length ≤ l.length * b := by
 induction l with
 | nil => simp
 | cons a l ih =>
  have h1 := h a (by simp)
  have h2 := ih (fun x hx => h x (by simp [hx]))
  simp only [List.flatten_cons, List.length_append, List.length_cons, Nat.add_mul]; omega
theorem uBa {α : Type} {l : List (List α)} {k : Nat} (h : k < l.length) : (l.take (k + 1)).flatten = (l.take k).flatten ++ l[k] := by
 rw [← List.take_append_getElem h, List.flatten_append]; simp
theorem uBd {α : Type} (l : List (List α)) (k : Nat) : (l.take k).flatten.length ≤ l.flatten.length := by
 conv => rhs; rw [← List.take_append_drop k l, List.flatten_append, List.length_append]
 omega
abbrev uQj := (List (List (List Int))) × (List (List (List Int))) × Int × Int × Int × Unit
abbrev uC5 := uQj × (Unit)
noncomputable def uJv : Tel uQj := .cons 9 (.lst Ecs) (.cons 0 (.lst Ecs) (.ji 3 (.ji 10 (.ji 11 (.nil)))))
noncomputable def uJy : BTel (Unit) := .nil
noncomputable def uJx : List (LForm uC5) := [⟨_, _, uJv, uJy, fun x y => (x, y)⟩]
abbrev uP2 := (List (List (List Int))) × Int × Unit
noncomputable def uEm (R0 : uC5 → uP2 → (Unit) → Prop) : List (Alt uC5) := [⟨.exit 0, uP2, Unit, .cons 0 (.lst Ecs) (.ji 3 (.nil)), .nil, R0⟩]
theorem bcat1Form (l : List (List (List Int))) (c : List (List (List Int))) (s n i : Int) (N : uC5 → Prop) (R0 : uC5 → uP2 → (Unit) → Prop) : ((runW PP (KL [] []) 100).code none 142 36 (loopBody PP 142 3) (mkT (uJv.av id (l, c, s, n, i, ()))) [] (stL false (uJy.obs id ())) (postL 0 uJx (uEm R0) ((l, c, s, n, i, ()), ()) N)) = ( ifp (!leInt n i) (idxOk i l.length ∧ ∃ l' n_1 c_1 x w e, nth ((natOf i).mul 1) (l.flatMap Ecs.f) = some (AV.vs l' n_1 c_1 x w e) ∧ ifp (!leInt 0 (wrapF .i64 (s.add (Int.ofNat n_1)))) False (True ∧ ∃ l_1, Wv Ecs l l_1 ∧ ∃ l, Wv Ecs c l ∧ true = true ∧ N ((l_1, l, wrapF .i64 (s.add (Int.ofNat n_1)), n, wrapF .i64 (i.add 1), ()), ()))) (True ∧ ∃ l_1, Wv Ecs c l_1 ∧ true = true ∧ R0 ((l, c, s, n, i, ()), ()) (l_1, s, ()) ())) := by kernel_rfl
def uGo : uC5 → Prop := fun ((l, c, s, n, i, ()), ()) => ∃ k : Nat, i = k ∧ n = l.length ∧ k ≤ l.length ∧ l.length ≤ 4096 ∧ (∀ x ∈ l, x.length ≤ 1024) ∧ s = ((l.take k).flatten.length : Nat)
def uPn : uC5 → Nat := fun ((l, c, s, n, i, ()), ()) => l.length - i.toNat
def uJw : uC5 → uP2 → (Unit) → Prop := fun ((l, c, s, n, i, ()), ()) (c2, r, _) _ => c2 = c ∧ r = (l.flatten.length : Nat)
noncomputable def uPo : LoopC := loopC 0 uJx (uEm uJw) uGo
theorem bcat1Step : stepsOk PP (KL [] []) 100 142 36 (loopBody PP 142 3) 0 false uJx (uEm uJw) uGo uPn ⟨_, _, uJv, uJy, fun x y => (x, y)⟩ := by
 intro x y hz
 obtain ⟨l, c, s, n, i, _⟩ := x
 obtain _ := y
 refine (bcat1Form l c s n i _ _).mpr ?_
 obtain ⟨k, rfl, rfl, hk, hl, hx, rfl⟩ := hz
 rw [ifp_lt]
 simp only [natOf_nat]
 have hb := uB0 hx
 have hb2 := uBd l k
 split
 ·rename_i h
  have hkl : k < l.length := by simpa using h
  have hb3 := uBd l (k + 1)
  rw [uBa hkl, List.length_append] at hb3
  refine ⟨idx_ok hkl, _, _, _, _, _, _, nth_lst hkl, ?_⟩
  have e : wrapF .i64 (Int.add (((l.take k).flatten.length : Nat) : Int) (Int.ofNat l[k].length)) = (((l.take (k + 1)).flatten.length : Nat) : Int) := by
   rw [uBa hkl, List.length_append, w64 (by show _ ≤ (((l.take k).flatten.length : Nat) : Int) + (l[k].length : Int); omega) (by show (((l.take k).flatten.length : Nat) : Int) + (l[k].length : Int) < _; omega)]
   show (((l.take k).flatten.length : Nat) : Int) + (l[k].length : Int) = _; omega
  rw [e, ifp_lt, if_neg (by omega)]
  repeat first | refine ⟨Nat.le_refl _, ?_⟩ | rw [ifp_pos (roomy_small (by simp only [Nat.add_eq]; omega) (by decide))] | refine ⟨trivial, ?_⟩ | refine ⟨(rfl : true = true), ?_⟩ | refine ⟨idx_ok (by omega), ?_⟩ | refine ⟨idx_ok0 (by omega), ?_⟩ | refine ⟨_, nth_int (by omega), ?_⟩ | refine ⟨_, _, _, _, _, _, nth_lst (by omega), ?_⟩ | refine ⟨_, _, _, _, _, _, nth_lst0 (by omega), ?_⟩ | refine ⟨_, Wk.refl _, ?_⟩ | rw [ifp_pos rfl]
  rw [wsucc (by omega)]
  exact ⟨⟨k + 1, rfl, rfl, hkl, hl, hx, rfl⟩, by show l.length - (k + 1) < l.length - k; omega, fun _ _ h => h, trivial⟩
 ·rename_i h
  repeat first | refine ⟨Nat.le_refl _, ?_⟩ | rw [ifp_pos (roomy_small (by simp only [Nat.add_eq]; omega) (by decide))] | refine ⟨trivial, ?_⟩ | refine ⟨(rfl : true = true), ?_⟩ | refine ⟨idx_ok (by omega), ?_⟩ | refine ⟨idx_ok0 (by omega), ?_⟩ | refine ⟨_, nth_int (by omega), ?_⟩ | refine ⟨_, _, _, _, _, _, nth_lst (by omega), ?_⟩ | refine ⟨_, _, _, _, _, _, nth_lst0 (by omega), ?_⟩ | refine ⟨_, Wk.refl _, ?_⟩ | rw [ifp_pos rfl]
  exact ⟨rfl, by rw [take_all (by simpa using h)]⟩
theorem bcat1Ok : LoopOk PP 142 36 (.loop (loopBody PP 142 3)) (uPo) := loop_ok uPn  mixed (KL_ok (cc_nil)) rfl (steps_cons bcat1Step (steps_nil))
theorem uKe : ∀ n : Nat, WkL (repl n [AV.nilSlice]) ((List.replicate n ([] : List Int)).flatMap Ell.f)
 | 0 => trivial
 | n + 1 => by rw [List.replicate_succ, List.flatMap_cons]; exact ⟨wk_nil Ei32, uKe n⟩
theorem uGv : ∀ n : Nat, allScalar (repl n [AV.nilSlice]) = true
 | 0 => rfl
 | n + 1 => by rw [show repl (n + 1) [AV.nilSlice] = AV.nilSlice :: repl n [AV.nilSlice] from rfl, allScalar_iff]; intro v hv; rcases List.mem_cons.1 hv with rfl | hv; rfl; exact allScalar_iff.1 (uGv n) v hv
abbrev uQi := (List (List (List Int))) × Int × Int × (Nat × Nat) × Unit
abbrev uC4 := uQi × ((List (List Int)) × Unit)
noncomputable def uJr : Tel uQi := .cons 25 (.lst Ecs) (.ji 26 (.ji 27 (.cons 6 (.slq 0 1) (.nil))))
noncomputable def uJu : BTel ((List (List Int)) × Unit) := .cons (.rowsW Ell 57) (.nil)
noncomputable def uJt : List (LForm uC4) := [⟨_, _, uJr, uJu, fun x y => (x, y)⟩]
abbrev uP1 := (Nat × Nat) × Unit
abbrev uP0 := (List (List Int)) × Unit
noncomputable def uEl (R0 : uC4 → uP1 → uP0 → Prop) : List (Alt uC4) := [⟨.exit 2, uP1, uP0, .cons 6 (.slq 0 1) (.nil), .cons (.rowsW Ell 57) (.nil), R0⟩]
theorem bcat2Form (l : List (List (List Int))) (n i : Int) (out : Nat × Nat) (m : List (List Int)) (N : uC4 → Prop) (R0 : uC4 → uP1 → uP0 → Prop) : ((runW PP (KLS [] [] 57) 100).code none 142 36 (loopBody PP 142 11) (mkT (uJr.av id (l, n, i, out, ()))) [] (stL false (uJu.obs id (m, ()))) (postL 0 uJt (uEl R0) ((l, n, i, out, ()), m, ()) N)) = ( ifp (!leInt n i) (idxOk i l.length ∧ ∃ l' n_1 c x w e, nth ((natOf i).mul 1) (l.flatMap Ecs.f) = some (AV.vs l' n_1 c x w e) ∧ ifp (e.beq 1) (l'.length = n_1.mul e ∧ ifp (allScalar l' && true) ((out.2 < out.1.add n_1 ∧ 0 = 0 ∧ out.1.mul 1 = (m.flatMap Ell.f).length ∧ roomy (out.1.add n_1) 24 = true ∧ True ∧ ∃ l_1, Wv Ecs l l_1 ∧ ∃ (l : List (List Int)), WkL (m.flatMap Ell.f ++ l') (l.flatMap Ell.f) ∧ true = true ∧ N ((l_1, n, wrapF .i64 (i.add 1), (out.1.add n_1, out.1.add n_1), ()), l, ())) ∨ out.1.add n_1 ≤ out.2 ∧ n_1 ≠ 0 ∧ (Nat.add 0 (out.1.mul 1)).add l'.length ≤ (m.flatMap Ell.f).length ∧ True ∧ ∃ l_1, Wv Ecs l l_1 ∧ ∃ (l : List (List Int)), WkL (setAt (Nat.add 0 (out.1.mul 1)) l' (m.flatMap Ell.f)) (l.flatMap Ell.f) ∧ true = true ∧ N ((l_1, n, wrapF .i64 (i.add 1), (out.1.add n_1, out.2), ()), l, ())) False) False) (True ∧ ∃ (l_1 : List (List Int)), WkL (m.flatMap Ell.f) (l_1.flatMap Ell.f) ∧ true = true ∧ R0 ((l, n, i, out, ()), m, ()) (out, ()) (l_1, ()))) := by kernel_rfl
def uGn : uC4 → Prop := fun ((l, n, i, out, ()), m, ()) => ∃ k : Nat, i = k ∧ n = l.length ∧ k ≤ l.length ∧ l.length ≤ 4096 ∧ (∀ x ∈ l, 1 ≤ x.length ∧ x.length ≤ 1024) ∧ out = ((l.take k).flatten.length, l.flatten.length) ∧ m.length = l.flatten.length ∧ m.take (l.take k).flatten.length = (l.take k).flatten
def uPm : uC4 → Nat := fun ((l, n, i, out, ()), m, ()) => l.length - i.toNat
def uJs : uC4 → uP1 → uP0 → Prop := fun ((l, n, i, out, ()), m, ()) (r, _) (m2, _) => r = (l.flatten.length, l.flatten.length) ∧ m2 = l.flatten
noncomputable def uLl : LoopC := loopC 0 uJt (uEl uJs) uGn
theorem bcat2Step : stepsOk PP (KLS [] [] 57) 100 142 36 (loopBody PP 142 11) 0 false uJt (uEl uJs) uGn uPm ⟨_, _, uJr, uJu, fun x y => (x, y)⟩ := by
 intro x y hz
 obtain ⟨l, n, i, out, _⟩ := x
 obtain ⟨m, _⟩ := y
 refine (bcat2Form l n i out m _ _).mpr ?_
 obtain ⟨k, rfl, rfl, hk, hl, hx, rfl, hm, ht⟩ := hz
 rw [ifp_lt]
 simp only [natOf_nat]
 split
 ·rename_i h
  have hkl : k < l.length := by simpa using h
  have hb3 := uBd l (k + 1)
  rw [uBa hkl, List.length_append] at hb3
  have h1 := hx _ (List.getElem_mem hkl)
  refine ⟨idx_ok hkl, _, _, _, _, _, _, nth_lst hkl, ?_⟩
  rw [ifp_pos (show Nat.beq Ell.e 1 = true from rfl)]
  refine ⟨Enc.flen Ell _, ?_⟩
  rw [ifp_pos (by rw [Enc.fscal Ell]; rfl)]
  have e0 : Nat.add 0 (Nat.mul (l.take k).flatten.length 1) = (l.take k).flatten.length := by simp
  have e1 : (l[k].flatMap Ell.f).length = l[k].length := (Enc.flen Ell _).trans (Nat.mul_one _)
  have e2 : (m.flatMap Ell.f).length = m.length := (Enc.flen Ell _).trans (Nat.mul_one _)
  refine Or.inr ⟨by simp only [Nat.add_eq]; omega, by omega, by rw [e0, e1, e2]; simp only [Nat.add_eq]; omega, trivial, l, Wk.refl _, m.take (l.take k).flatten.length ++ l[k] ++ m.drop ((l.take k).flatten.length + l[k].length), ?_, (by trivial), ?_⟩
  ·rw [e0, setAt_app (E := Ell) rfl (by omega)]; exact WkL.refl _
  ·rw [wsucc (by omega)]
   refine ⟨⟨k + 1, rfl, rfl, hkl, hl, hx, ?_, ?_, ?_⟩, by show l.length - (k + 1) < l.length - k; omega, fun _ _ h => h, trivial⟩
   ·rw [uBa hkl, List.length_append]; rfl
   ·simp only [List.length_append, List.length_take, List.length_drop]; omega
   ·rw [uBa hkl, List.length_append, ht, List.take_append_of_le_length (by simp)]
    exact List.take_of_length_le (by simp)
 ·rename_i h
  have hkl : ¬ k < l.length := by simpa using h
  rw [take_all hkl] at ht
  refine ⟨trivial, m, WkL.refl _, (by trivial), ?_⟩
  rw [take_all hkl]
  exact ⟨rfl, by rw [← ht, List.take_of_length_le (by omega)]⟩
theorem bcat2Ok : LoopOk PP 142 36 (.loop (loopBody PP 142 11)) (uLl) := loop_ok uPm  mixed (KLS_ok (cc_nil)) rfl (steps_cons bcat2Step (steps_nil))
abbrev uMd := (List (List (List Int))) × Unit
noncomputable def uTa : Tel uMd := .cons 0 (.lst Ecs) (.nil)
theorem bcatFn (c : List (List (List Int))) (Q : AV → Prop) : (callW PP (runW PP (KLS [] [(142, [(3, uPo), (11, uLl)])] 57) 200) 142 (uTa.cells id (c, ())) (stE false) (fun x st => frzW st x Q)) = ( LoopOk PP 142 36 (loopBody PP 142 3).loop uPo ∧ True ∧ True ∧ ∃ l, Wv Ecs c l ∧ ∃ l_1, Wv Ecs c l_1 ∧ true = true ∧ uGo ((l, l_1, 0, Int.ofNat c.length, 0, ()), ()) ∧ (∀ c_1 d, uJw ((l, l_1, 0, Int.ofNat c.length, 0, ()), ()) c_1 d → ifp (!leInt 0 c_1.2.1) False (ifp (!leInt (wrapF .i64 (c_1.2.1.sub 0)) 0) ((0 : Int) ≤ wrapF .i64 (c_1.2.1.sub 0) ∧ wrapF .i64 (c_1.2.1.sub 0) ≤ 16777216 ∧ roomy (natOf (wrapF .i64 (c_1.2.1.sub (wrapF .i64 (Int.sub 0 0))))) 24 = true ∧ ifp (allScalar (repl (natOf (wrapF .i64 (c_1.2.1.sub (wrapF .i64 (Int.sub 0 0))))) [AV.nilSlice]) && true) (natOf (wrapF .i64 (c_1.2.1.sub (wrapF .i64 (Int.sub 0 0)))) ≠ 0 ∧ roomy (natOf (wrapF .i64 (c_1.2.1.sub (wrapF .i64 (Int.sub 0 0))))) 24 = true ∧ (0 : Int) ≤ 0 ∧ (0 : Int) ≤ ↑(natOf (wrapF .i64 (c_1.2.1.sub (wrapF .i64 (Int.sub 0 0))))) ∧ LoopOk PP 142 36 (loopBody PP 142 11).loop uLl ∧ True ∧ True ∧ ∃ l, Wv Ecs c_1.1 l ∧ ∃ (l_2 : List (List Int)), WkL (repl (natOf (wrapF .i64 (c_1.2.1.sub (wrapF .i64 (Int.sub 0 0))))) [AV.nilSlice]) (l_2.flatMap Ell.f) ∧ true = true ∧ uGn ((l, Int.ofNat c_1.1.length, 0, (0, (natOf (wrapF .i64 (c_1.2.1.sub (wrapF .i64 (Int.sub 0 0))))).sub 0), ()), l_2, ()) ∧ (∀ c d, uJs ((l, Int.ofNat c_1.1.length, 0, (0, (natOf (wrapF .i64 (c_1.2.1.sub (wrapF .i64 (Int.sub 0 0))))).sub 0), ()), l_2, ()) c d → Nat.add 0 (c.1.1.mul 1) ≤ (List.flatMap Ell.f d.1).length ∧ Q (AV.vs (List.take (c.1.1.mul 1) (List.drop 0 (List.flatMap Ell.f d.1))) c.1.1 c.1.2 false none 1)) ∧ True) False) (LoopOk PP 142 36 (loopBody PP 142 11).loop uLl ∧ True ∧ True ∧ ∃ l, Wv Ecs c_1.1 l ∧ False))) ∧ True) := by kernel_rfl
def uGm : (List (List (List Int))) × Unit → Prop := fun (c, ()) => 1 ≤ c.length ∧ c.length ≤ 4096 ∧ ∀ x ∈ c, 1 ≤ x.length ∧ x.length ≤ 1024
noncomputable def uPl : (List (List (List Int))) × Unit → AV := fun (c, ()) => lst Ell c.flatten
noncomputable def uTb : CallC := valC uTa uGm uPl
theorem bcatVal (c : List (List (List Int))) (hp : uGm (c, ())) : Val PP 142 (uTa.cells id (c, ())) (uPl (c, ())) := by
 refine Val.ofF mixed (KLS_ok (cc_nil)) (freesC rfl _) (bcatFn c) ?_
 obtain ⟨p1, p2, p3⟩ := hp
 have hb := uB0 (fun x hx => (p3 x hx).2)
 have hpos : 1 ≤ c.flatten.length := by
  cases c with
  | nil => simp at p1
  | cons a c => have := p3 a (by simp); rw [List.flatten_cons, List.length_append]; omega
 refine ⟨bcat1Ok, trivial, trivial, c, Wk.refl _, c, Wk.refl _, rfl, ⟨0, rfl, rfl, by omega, p2, fun x hx => (p3 x hx).2, rfl⟩, fun d _ hr => ?_, trivial⟩
 obtain ⟨c2, s, _⟩ := d
 obtain ⟨rfl, rfl⟩ := hr
 have e : wrapF .i64 (Int.sub ((c2.flatten.length : Nat) : Int) 0) = ((c2.flatten.length : Nat) : Int) := by rw [w64 (by show _ ≤ (c2.flatten.length : Int) - 0; omega) (by show (c2.flatten.length : Int) - 0 < _; omega)]; exact Int.sub_zero _
 have e0 : wrapF .i64 (Int.sub 0 0) = 0 := rfl
 simp only [e0, e, natOf_nat]
 rw [ifp_lt, if_neg (by omega), ifp_lt, if_pos (by omega)]
 refine ⟨by omega, by omega, roomy_small (by omega) (by decide), ?_⟩
 rw [ifp_pos (by rw [uGv]; rfl)]
 refine ⟨by omega, roomy_small (by omega) (by decide), by omega, by omega, bcat2Ok, trivial, trivial, c2, Wk.refl _, List.replicate c2.flatten.length [], uKe _, (by trivial), ⟨0, rfl, rfl, by omega, p2, p3, by simp, by simp, by simp⟩, fun d m hr => ?_, trivial⟩
 obtain ⟨r, _⟩ := d
 obtain ⟨m, _⟩ := m
 obtain ⟨rfl, rfl⟩ := hr
 have e2 : (c2.flatten.flatMap Ell.f).length = c2.flatten.length := (Enc.flen Ell _).trans (Nat.mul_one _)
 refine ⟨by rw [e2]; simp, ?_⟩
 exact tells_lst ⟨by show List.take (Nat.mul _ 1) _ = _; rw [List.take_of_length_le (by rw [List.length_drop, e2]; simp)]; rfl, rfl, rfl⟩
theorem uRg : CcOk PP 142 uTb := val_ok rfl (fun ⟨c, _⟩ h => bcatVal c h)
def uAa (W : List (List (List Int))) : List Int := if uBf W = 0 then W.flatten.flatten.flatMap (fun x => putV (u64 x) 4) else []
abbrev uB4 := Unit × Unit
abbrev uB6 := ((List Int) × Int × Int × (List Int) × Unit) × uB4
noncomputable def uPq : Tel ((List Int) × Int × Int × (List Int) × Unit) := .cons 12 (.lst Ei32) (.ji 13 (.ji 14 (.cons 3 (.own Eu8 0) (.nil))))
noncomputable def uPt : BTel uB4 := .cons (.spare) (.nil)
noncomputable def uJz : Tel ((List Int) × Int × Int × Unit × Unit) := .cons 12 (.lst Ei32) (.ji 13 (.ji 14 (.cons 3 (.nilS) (.nil))))
noncomputable def uJ1 : BTel (Unit) := .nil
noncomputable def uPp : ((List Int) × Int × Int × Unit × Unit) → (Unit) → uB6 := fun (l, n, i, (), ()) () => ((l, n, i, [], ()), (), ())
noncomputable def uHe : List (LForm uB6) := [⟨_, _, uPq, uPt, fun x y => (x, y)⟩, ⟨_, _, uJz, uJ1, uPp⟩]
abbrev uMe := (List Int) × Unit
noncomputable def uCn (R0 : uB6 → uMe → uB4 → Prop) (R1 : uB6 → uB4 → (Unit) → Prop) : List (Alt uB6) := [⟨.exit 0, uMe, Unit × Unit, .cons 3 (.own Eu8 0) (.nil), .cons (.spare) (.nil), R0⟩, ⟨.exit 0, Unit × Unit, Unit, .cons 3 (.nilS) (.nil), .nil, R1⟩]
noncomputable abbrev uKo := KL [(188, putK)] []
theorem bbytForm (l : List Int) (n i : Int) (out : List Int) (N : uB6 → Prop) (R0 : uB6 → uMe → uB4 → Prop) (R1 : uB6 → uB4 → (Unit) → Prop) : ((runW PP uKo 100).code none 127 26 (loopBody PP 127 5) (mkT (uPq.av id (l, n, i, out, ()))) [] (stL true (uPt.obs id ((), ()))) (postL 0 uHe (uCn R0 R1) ((l, n, i, out, ()), (), ()) N)) = ( ifp (!leInt n i) (idxOk i l.length ∧ ∃ x : Int, nth ((natOf i).mul 1) (l.flatMap Ei32.f) = some (AV.int .i32 x) ∧ ∃ (l_1 : List Int), Wk AV.nilSlice (lst Eu8 l_1) ∧ uEv (l_1, wrapF .u64 (wrapF .i64 x), 4, ()) ∧ (List.flatMap Eu8.f (l_1 ++ [wrapF .u64 (wrapF .i64 x) / 256 ^ nat_lit 0 % 256, wrapF .u64 (wrapF .i64 x) / 256 ^ nat_lit 1 % 256, wrapF .u64 (wrapF .i64 x) / 256 ^ nat_lit 2 % 256, wrapF .u64 (wrapF .i64 x) / 256 ^ nat_lit 3 % 256])).length = (l_1 ++ [wrapF .u64 (wrapF .i64 x) / 256 ^ nat_lit 0 % 256, wrapF .u64 (wrapF .i64 x) / 256 ^ nat_lit 1 % 256, wrapF .u64 (wrapF .i64 x) / 256 ^ nat_lit 2 % 256, wrapF .u64 (wrapF .i64 x) / 256 ^ nat_lit 3 % 256]).length.mul 1 ∧ ifp (allScalar (List.flatMap Eu8.f (l_1 ++ [wrapF .u64 (wrapF .i64 x) / 256 ^ nat_lit 0 % 256, wrapF .u64 (wrapF .i64 x) / 256 ^ nat_lit 1 % 256, wrapF .u64 (wrapF .i64 x) / 256 ^ nat_lit 2 % 256, wrapF .u64 (wrapF .i64 x) / 256 ^ nat_lit 3 % 256])) && true) (ifp (roomy (out.length.add (l_1 ++ [wrapF .u64 (wrapF .i64 x) / 256 ^ nat_lit 0 % 256, wrapF .u64 (wrapF .i64 x) / 256 ^ nat_lit 1 % 256, wrapF .u64 (wrapF .i64 x) / 256 ^ nat_lit 2 % 256, wrapF .u64 (wrapF .i64 x) / 256 ^ nat_lit 3 % 256]).length) 1) (True ∧ ((∃ l_2, Wv Ei32 l l_2 ∧ ∃ (l : List Int), (WkL (out.flatMap Eu8.f ++ List.flatMap Eu8.f (l_1 ++ [wrapF .u64 (wrapF .i64 x) / 256 ^ nat_lit 0 % 256, wrapF .u64 (wrapF .i64 x) / 256 ^ nat_lit 1 % 256, wrapF .u64 (wrapF .i64 x) / 256 ^ nat_lit 2 % 256, wrapF .u64 (wrapF .i64 x) / 256 ^ nat_lit 3 % 256])) (l.flatMap Eu8.f) ∧ out.length.add (l_1 ++ [wrapF .u64 (wrapF .i64 x) / 256 ^ nat_lit 0 % 256, wrapF .u64 (wrapF .i64 x) / 256 ^ nat_lit 1 % 256, wrapF .u64 (wrapF .i64 x) / 256 ^ nat_lit 2 % 256, wrapF .u64 (wrapF .i64 x) / 256 ^ nat_lit 3 % 256]).length = l.length ∧ 1 = 1) ∧ true = true ∧ N ((l_2, n, wrapF .i64 (i.add 1), l, ()), (), ())) ∨ ∃ l_2, Wv Ei32 l l_2 ∧ False)) False) False) ((True ∧ ∃ l_1, Ow Eu8 out l_1 1 ∧ true = true ∧ R0 ((l, n, i, out, ()), (), ()) (l_1, ()) ((), ())) ∨ True ∧ False)) := by kernel_rfl
theorem bbytForm0 (l : List Int) (n i : Int) (N : uB6 → Prop) (R0 : uB6 → uMe → uB4 → Prop) (R1 : uB6 → uB4 → (Unit) → Prop) : ((runW PP uKo 100).code none 127 26 (loopBody PP 127 5) (mkT (uJz.av id (l, n, i, (), ()))) [] (stL true (uJ1.obs id ())) (postL 0 uHe (uCn R0 R1) (uPp (l, n, i, (), ()) ()) N)) = ( ifp (!leInt n i) (idxOk i l.length ∧ ∃ x : Int, nth ((natOf i).mul 1) (l.flatMap Ei32.f) = some (AV.int .i32 x) ∧ ∃ (l_1 : List Int), Wk AV.nilSlice (lst Eu8 l_1) ∧ uEv (l_1, wrapF .u64 (wrapF .i64 x), 4, ()) ∧ (List.flatMap Eu8.f (l_1 ++ [wrapF .u64 (wrapF .i64 x) / 256 ^ nat_lit 0 % 256, wrapF .u64 (wrapF .i64 x) / 256 ^ nat_lit 1 % 256, wrapF .u64 (wrapF .i64 x) / 256 ^ nat_lit 2 % 256, wrapF .u64 (wrapF .i64 x) / 256 ^ nat_lit 3 % 256])).length = (l_1 ++ [wrapF .u64 (wrapF .i64 x) / 256 ^ nat_lit 0 % 256, wrapF .u64 (wrapF .i64 x) / 256 ^ nat_lit 1 % 256, wrapF .u64 (wrapF .i64 x) / 256 ^ nat_lit 2 % 256, wrapF .u64 (wrapF .i64 x) / 256 ^ nat_lit 3 % 256]).length.mul 1 ∧ ifp (allScalar (List.flatMap Eu8.f (l_1 ++ [wrapF .u64 (wrapF .i64 x) / 256 ^ nat_lit 0 % 256, wrapF .u64 (wrapF .i64 x) / 256 ^ nat_lit 1 % 256, wrapF .u64 (wrapF .i64 x) / 256 ^ nat_lit 2 % 256, wrapF .u64 (wrapF .i64 x) / 256 ^ nat_lit 3 % 256])) && true) (ifp ((l_1 ++ [wrapF .u64 (wrapF .i64 x) / 256 ^ nat_lit 0 % 256, wrapF .u64 (wrapF .i64 x) / 256 ^ nat_lit 1 % 256, wrapF .u64 (wrapF .i64 x) / 256 ^ nat_lit 2 % 256, wrapF .u64 (wrapF .i64 x) / 256 ^ nat_lit 3 % 256]).length.beq 0) (True ∧ ((∃ l_2, Wv Ei32 l l_2 ∧ False) ∨ ∃ l_2, Wv Ei32 l l_2 ∧ true = true ∧ N ((l_2, n, wrapF .i64 (i.add 1), [], ()), (), ()))) (ifp (roomy (l_1 ++ [wrapF .u64 (wrapF .i64 x) / 256 ^ nat_lit 0 % 256, wrapF .u64 (wrapF .i64 x) / 256 ^ nat_lit 1 % 256, wrapF .u64 (wrapF .i64 x) / 256 ^ nat_lit 2 % 256, wrapF .u64 (wrapF .i64 x) / 256 ^ nat_lit 3 % 256]).length 1) (True ∧ ((∃ l_2, Wv Ei32 l l_2 ∧ ∃ l, Ow Eu8 (l_1 ++ [wrapF .u64 (wrapF .i64 x) / 256 ^ nat_lit 0 % 256, wrapF .u64 (wrapF .i64 x) / 256 ^ nat_lit 1 % 256, wrapF .u64 (wrapF .i64 x) / 256 ^ nat_lit 2 % 256, wrapF .u64 (wrapF .i64 x) / 256 ^ nat_lit 3 % 256]) l 1 ∧ true = true ∧ N ((l_2, n, wrapF .i64 (i.add 1), l, ()), (), ())) ∨ ∃ l_2, Wv Ei32 l l_2 ∧ False)) False)) False) (True ∧ False ∨ True ∧ true = true ∧ R1 ((l, n, i, [], ()), (), ()) ((), ()) ())) := by kernel_rfl
def uGp : uB6 → Prop := fun ((l, n, i, out, ()), (), ()) => ∃ k : Nat, i = k ∧ n = l.length ∧ k ≤ l.length ∧ l.length ≤ 4194304 ∧ (∀ x ∈ l, -2147483648 ≤ x ∧ x < 2147483648) ∧ out = (l.take k).flatMap fun x => putV (u64 x) 4
def uPs : uB6 → Nat := fun ((l, n, i, out, ()), (), ()) => l.length - i.toNat
def uLn : uB6 → uMe → uB4 → Prop := fun ((l, n, i, out, ()), (), ()) (r, _) _ => r = l.flatMap fun x => putV (u64 x) 4
def uLm : uB6 → uB4 → (Unit) → Prop := fun ((l, n, i, out, ()), (), ()) _ _ => l = []
noncomputable def uTd : LoopC := loopC 0 uHe (uCn uLn uLm) uGp
theorem bbytStep : stepsOk PP uKo 100 127 26 (loopBody PP 127 5) 0 true uHe (uCn uLn uLm) uGp uPs ⟨_, _, uPq, uPt, fun x y => (x, y)⟩ := by
 intro x y hz
 obtain ⟨l, n, i, out, _⟩ := x
 obtain ⟨_, _⟩ := y
 refine (bbytForm l n i out _ _ _).mpr ?_
 obtain ⟨k, rfl, rfl, hk, hl, hx, rfl⟩ := hz
 rw [ifp_lt]
 simp only [natOf_nat]
 split
 ·rename_i h
  have hkl : k < l.length := by simpa using h
  have h1 := hx _ (List.getElem_mem hkl)
  have hr := uB8 l[k]
  repeat first | refine ⟨Nat.le_refl _, ?_⟩ | rw [ifp_pos (roomy_small (by simp only [Nat.add_eq]; omega) (by decide))] | refine ⟨trivial, ?_⟩ | refine ⟨(rfl : true = true), ?_⟩ | refine ⟨idx_ok (by omega), ?_⟩ | refine ⟨idx_ok0 (by omega), ?_⟩ | refine ⟨_, nth_int (by omega), ?_⟩ | refine ⟨_, _, _, _, _, _, nth_lst (by omega), ?_⟩ | refine ⟨_, _, _, _, _, _, nth_lst0 (by omega), ?_⟩ | refine ⟨_, Wk.refl _, ?_⟩ | rw [ifp_pos rfl]
  refine ⟨[], wk_nil _, ?_⟩
  rw [uJ6 h1.1 h1.2]
  refine ⟨⟨hr.1, hr.2, by decide, by decide, by simp⟩, Enc.flen Eu8 _, ?_⟩
  rw [ifp_pos (by rw [Enc.fscal Eu8]; rfl), ifp_pos (roomy_small (by simp only [Nat.add_eq, List.nil_append, uAr, uAq, List.length_take, List.length_cons, List.length_nil]; omega) (by decide))]
  refine ⟨trivial, Or.inl ⟨l, Wk.refl _, (l.take (k + 1)).flatMap fun x => putV (u64 x) 4, ⟨?_, ?_, by first | trivial | rfl⟩, by first | trivial | rfl, ?_⟩⟩
  ·rw [uFs hkl]; exact wkl_app (m := putV (u64 l[k]) 4)
  ·rw [uFs hkl]; exact len_app (m := putV (u64 l[k]) 4)
  ·rw [wsucc (by omega)]
   exact ⟨⟨k + 1, rfl, rfl, hkl, hl, hx, rfl⟩, by show l.length - (k + 1) < l.length - k; omega, fun _ _ h => h, fun _ _ h => h, trivial⟩
 ·rename_i h
  have hkl : ¬ k < l.length := by simpa using h
  refine Or.inl ⟨trivial, _, ⟨WkL.refl _, by first | trivial | rfl, by first | trivial | rfl⟩, by first | trivial | rfl, ?_⟩
  show List.flatMap _ (l.take k) = _
  rw [take_all hkl]
theorem bbytStep0 : stepsOk PP uKo 100 127 26 (loopBody PP 127 5) 0 true uHe (uCn uLn uLm) uGp uPs ⟨_, _, uJz, uJ1, uPp⟩ := by
 intro x y hz
 obtain ⟨l, n, i, _, _⟩ := x
 obtain _ := y
 refine (bbytForm0 l n i _ _ _).mpr ?_
 obtain ⟨k, rfl, rfl, hk, hl, hx, h0⟩ := hz
 rw [ifp_lt]
 simp only [natOf_nat]
 have hk0 : k = 0 := by have := congrArg List.length h0; rw [uAq, List.length_take] at this; simp at this; omega
 subst hk0
 split
 ·rename_i h
  have hkl : 0 < l.length := by simpa using h
  have h1 := hx _ (List.getElem_mem hkl)
  have hr := uB8 l[0]
  repeat first | refine ⟨Nat.le_refl _, ?_⟩ | rw [ifp_pos (roomy_small (by simp only [Nat.add_eq]; omega) (by decide))] | refine ⟨trivial, ?_⟩ | refine ⟨(rfl : true = true), ?_⟩ | refine ⟨idx_ok (by omega), ?_⟩ | refine ⟨idx_ok0 (by omega), ?_⟩ | refine ⟨_, nth_int (by omega), ?_⟩ | refine ⟨_, _, _, _, _, _, nth_lst (by omega), ?_⟩ | refine ⟨_, _, _, _, _, _, nth_lst0 (by omega), ?_⟩ | refine ⟨_, Wk.refl _, ?_⟩ | rw [ifp_pos rfl]
  refine ⟨[], wk_nil _, ?_⟩
  rw [uJ6 h1.1 h1.2]
  refine ⟨⟨hr.1, hr.2, by decide, by decide, by simp⟩, Enc.flen Eu8 _, ?_⟩
  rw [ifp_pos (by rw [Enc.fscal Eu8]; rfl)]
  repeat first | refine ⟨Nat.le_refl _, ?_⟩ | rw [ifp_pos (roomy_small (by simp only [Nat.add_eq]; omega) (by decide))] | refine ⟨trivial, ?_⟩ | refine ⟨(rfl : true = true), ?_⟩ | refine ⟨idx_ok (by omega), ?_⟩ | refine ⟨idx_ok0 (by omega), ?_⟩ | refine ⟨_, nth_int (by omega), ?_⟩ | refine ⟨_, _, _, _, _, _, nth_lst (by omega), ?_⟩ | refine ⟨_, _, _, _, _, _, nth_lst0 (by omega), ?_⟩ | refine ⟨_, Wk.refl _, ?_⟩ | rw [ifp_pos rfl]
  refine Or.inl ⟨l, Wk.refl _, putV (u64 l[0]) 4, ⟨WkL.refl _, by first | trivial | rfl, by first | trivial | rfl⟩, by first | trivial | rfl, ?_⟩
  rw [wsucc (by omega)]
  exact ⟨⟨1, rfl, rfl, hkl, hl, hx, by cases l with | nil => simp at hkl | cons a l => simp⟩, by show l.length - 1 < l.length - 0; omega, fun _ _ h => h, fun _ _ h => h, trivial⟩
 ·rename_i h
  have hkl : ¬ 0 < l.length := by simpa using h
  refine Or.inr ⟨trivial, by first | trivial | rfl, ?_⟩
  exact List.length_eq_zero_iff.1 (by omega)
theorem bbytOk : LoopOk PP 127 26 (.loop (loopBody PP 127 5)) (uTd) := loop_ok uPs  mixed (KL_ok (cc_cons uP5 (cc_nil))) rfl (steps_cons bbytStep (steps_cons bbytStep0 (steps_nil)))
noncomputable def uTc : Tel (Bk × Unit) := .cons 0 (.aggW Ebk) (.nil)
theorem bbytFn (b : Bk) (Q : AV → Prop) : (callW PP (runW PP (KL [(138, uPi), (142, uTb), (187, uSu), (188, putK)] [(127, [(5, uTd)])]) 200) 127 (uTc.cells id (b, ())) (stE true) (fun x st => frzW st x Q)) = ( ∃ (a : Bk), WkL [AV.vs (List.flatMap Ecs.f b.1) b.1.length b.1.length false none 1] (Ebk.f a) ∧ uCv (a, ()) ∧ ifp (!eqInt (uBf a.1) 0) (Q AV.nilSlice) (∃ l, Wv Ecs b.1 l ∧ uGm (l, ()) ∧ ∃ l_1, Wv Ell l.flatten l_1 ∧ uF2 (l_1, ()) ∧ LoopOk PP 127 26 (loopBody PP 127 5).loop uTd ∧ True ∧ True ∧ ((∃ l, Wv Ei32 l_1.flatten l ∧ False) ∨ ∃ l, Wv Ei32 l_1.flatten l ∧ true = true ∧ uGp ((l, Int.ofNat l_1.flatten.length, 0, [], ()), (), ()) ∧ (∀ c d, uLn ((l, Int.ofNat l_1.flatten.length, 0, [], ()), (), ()) c d → Q (AV.vs (List.flatMap Eu8.f c.1) c.1.length c.1.length false (some 1) 1)) ∧ (∀ c d, uLm ((l, Int.ofNat l_1.flatten.length, 0, [], ()), (), ()) c d → Q AV.nilSlice) ∧ True))) := by kernel_rfl
def uJ0 : Bk × Unit → Prop := fun (b, ()) => (∀ x ∈ b.1, x.length ≤ 4194304) ∧ b.1.flatten.length ≤ 4096
noncomputable def uPr : Bk × Unit → AV := fun (b, ()) => lst Eu8 (uAa b.1)
noncomputable def uT3 : CallC := valC uTc uJ0 uPr
theorem bbytVal (b : Bk) (hp : uJ0 (b, ())) : Val PP 127 (uTc.cells id (b, ())) (uPr (b, ())) := by
 refine Val.ofF mixed (KL_ok (cc_cons uLk (cc_cons uRg (cc_cons uQ6 (cc_cons uP5 (cc_nil)))))) (freesC rfl _) (bbytFn b) ?_
 obtain ⟨W, _⟩ := b
 obtain ⟨hx, hf0⟩ := hp
 have hf : W.flatten.length ≤ 4096 := hf0
 refine ⟨(W, ()), WkL.refl _, hx, ?_⟩
 dsimp only
 rw [ifp_ne]
 split
 ·rename_i h
  obtain ⟨hs, hcw⟩ := uBb h
  obtain ⟨hc, hl⟩ := uAu hs
  have hcf : ∀ x ∈ W.flatten, cw x = 0 := fun x hx => by
   obtain ⟨l, h1, h2⟩ := List.mem_flatten.1 hx
   exact hcw l h1 x h2
  have hlen := uFz hcf
  have hb := uFu (fun x hx => (hlen x hx).2)
  have h1 : 1 ≤ W.flatten.length := by
   cases W with
   | nil => simp at hc
   | cons a W => rw [List.flatten_cons, List.length_append]; have := hc.2.2.1; have h9 : 1 ≤ a.length := this; omega
  have he : uAa W = W.flatten.flatten.flatMap (fun x => putV (u64 x) 4) := by rw [uAa, if_pos h]
  refine ⟨W, Wk.refl _, ⟨hc.1, by omega, fun x hx => by have := (hl x hx).1; omega⟩, W.flatten, Wk.refl _, ⟨h1, hf, hlen⟩, bbytOk, trivial, trivial, Or.inr ⟨W.flatten.flatten, Wk.refl _, (by trivial), ⟨0, rfl, rfl, by omega, by omega, uDg hcf, rfl⟩, fun d _ hr => ?_, fun _ _ hr => ?_, trivial⟩⟩
  ·obtain ⟨r, _⟩ := d
   have hr' : r = W.flatten.flatten.flatMap (fun x => putV (u64 x) 4) := hr
   exact tells_lst ⟨by show List.flatMap _ r = _; rw [hr', ← he], by show r.length = _; rw [hr', ← he], rfl⟩
  ·have hr' : W.flatten.flatten = [] := hr
   show Tells .nilSlice (lst Eu8 (uAa W))
   rw [he, hr']; exact tells_nil _
 ·rename_i h
  have he : uAa W = [] := by rw [uAa, if_neg h]
  show Tells .nilSlice (lst Eu8 (uAa W))
  rw [he]; exact tells_nil _
theorem bbytCc : CcOk PP 127 uT3 := val_ok rfl (fun ⟨b, _⟩ h => bbytVal b h)
def uBz (b : List (List (List Int))) (k m n : Int) : Bool := decide ((b.length : Int) ≤ k) && b.all fun l => uAn l m n
def uCf (t : Tn) : Bool := uAn t.1 40 40 && uBz t.2.1 40 40 40
def uJ8 (c : Cf) : Bool := decide (c.1 ≤ 16) && (decide (c.2.2.2.1 ≤ 16) && (decide (c.2.2.1 ≤ 16) && (decide (c.2.2.2.2.1 ≤ 64) && (decide (c.2.2.2.2.2.1 ≤ 4) && decide (c.2.2.2.2.2.2.1 ≤ 32)))))
abbrev lbkZ := (Unit × Int × Int × Int × Unit) × (uMd × Unit)
noncomputable def uR3 : Tel (Unit × Int × Int × Int × Unit) := .cons 4 (.ptr 0) (.ji 2 (.ji 3 (.ji 9 (.nil))))
noncomputable def uR7 : BTel (uMd × Unit) := .cons (.row (.cons 0 (.lst Ecs) (.nil))) (.nil)
noncomputable def uR6 : List (LForm lbkZ) := [⟨_, _, uR3, uR7, fun x y => (x, y)⟩]
noncomputable def uH5 (R0 : lbkZ → (Unit) → (Unit) → Prop) (R1 : lbkZ → (Bool × Unit) → (Unit) → Prop) : List (Alt lbkZ) := [⟨.exit 0, Unit, Unit, .nil, .nil, R0⟩, ⟨.ret, Bool × Unit, Unit, .cons 8 (.bool) (.nil), .nil, R1⟩]
theorem lbkForm (m n i : Int) (b : List (List (List Int))) (N : lbkZ → Prop) (R0 : lbkZ → (Unit) → (Unit) → Prop) (R1 : lbkZ → (Bool × Unit) → (Unit) → Prop) : ((runW PP (KL [(71, uG4)] []) 100).code none 72 31 (loopBody PP 72 4) (mkT (uR3.av id ((), m, n, i, ()))) [] (stL false (uR7.obs id ((b, ()), ()))) (postL 0 uR6 (uH5 R0 R1) (((), m, n, i, ()), (b, ()), ()) N)) = ( ifp (!leInt (Int.ofNat b.length) i) (idxOk i b.length ∧ ∃ l' n_1 c x w e, nth ((natOf i).mul 1) (b.flatMap Ecs.f) = some (AV.vs l' n_1 c x w e) ∧ ∃ (l : List (List Int)), Wk (AV.vs l' n_1 c x w e) (lst Ell l) ∧ uDa (l, m, n, ()) ∧ ifp (uAn l m n) (True ∧ ∃ l, Wv Ecs b l ∧ true = true ∧ N (((), m, n, wrapF .i64 (i.add 1), ()), (l, ()), ())) (True ∧ true = true ∧ R1 (((), m, n, i, ()), (b, ()), ()) (false, ()) ())) (True ∧ true = true ∧ R0 (((), m, n, i, ()), (b, ()), ()) () ())) := by kernel_rfl
def uM0 : lbkZ → Prop := fun (((), m, n, i, ()), (b, ()), ()) => ∃ k : Nat, i = k ∧ k ≤ b.length ∧ b.length < 9223372036854775807 ∧ m < 9223372036854775807 ∧ (b.take k).all (fun l => uAn l m n) = true
def uTt : lbkZ → Nat := fun (((), m, n, i, ()), (b, ()), ()) => b.length - i.toNat
def uR5 : lbkZ → (Unit) → (Unit) → Prop := fun (((), m, n, i, ()), (b, ()), ()) _ _ => b.all (fun l => uAn l m n) = true
def uR4 : lbkZ → (Bool × Unit) → (Unit) → Prop := fun (((), m, n, i, ()), (b, ()), ()) (r, _) _ => r = false ∧ b.all (fun l => uAn l m n) = false
noncomputable def lbkC : LoopC := loopC 0 uR6 (uH5 uR5 uR4) uM0
theorem lbkStep : stepsOk PP (KL [(71, uG4)] []) 100 72 31 (loopBody PP 72 4) 0 false uR6 (uH5 uR5 uR4) uM0 uTt ⟨_, _, uR3, uR7, fun x y => (x, y)⟩ := by
 intro x y hz
 obtain ⟨_, m, n, i, _⟩ := x
 obtain ⟨⟨b, _⟩, _⟩ := y
 refine (lbkForm m n i b _ _ _).mpr ?_
 obtain ⟨k, rfl, hk, hl, hm, ht⟩ := hz
 rw [ifp_lt]
 simp only [natOf_nat]
 split
 ·rename_i h
  have hkl : k < b.length := by simpa using h
  refine ⟨idx_ok hkl, _, _, _, _, _, _, nth_lst hkl, b[k], Wk.refl _, hm, ?_⟩
  cases h9 : uAn b[k] m n with
  | true =>
   rw [ifp_pos rfl]
   refine ⟨trivial, b, Wk.refl _, (by trivial), ?_⟩
   rw [wsucc (by omega)]
   exact ⟨⟨k + 1, rfl, hkl, hl, hm, by rw [all_take_succ hkl, ht, h9]; rfl⟩, by show b.length - (k + 1) < b.length - k; omega, fun _ _ h => h, fun _ _ h => h, trivial⟩
  | false =>
   rw [ifp_neg rfl]
   exact ⟨trivial, (by trivial), rfl, all_of_get hkl h9⟩
 ·rename_i h
  have hkl : ¬ k < b.length := by simpa using h
  exact ⟨trivial, (by trivial), by rw [take_all hkl] at ht; exact ht⟩
theorem lbkOk : LoopOk PP 72 31 (.loop (loopBody PP 72 4)) (lbkC) := loop_ok uTt  mixed (KL_ok (cc_cons uH3 (cc_nil))) rfl (steps_cons lbkStep (steps_nil))
noncomputable def uFh : Tel (Bk × Int × Int × Int × Unit) := .cons 0 (.aggW Ebk) (.ji 1 (.ji 2 (.ji 3 (.nil))))
theorem lightBkFn (b : Bk) (k m n : Int) (Q : AV → Prop) : (callW PP (runW PP (KL [(71, uG4)] [(72, [(4, lbkC)])]) 200) 72 (uFh.cells id (b, k, m, n, ())) (stE false) (fun x st => frzW st x Q)) = ( ifp (!leInt (Int.ofNat b.1.length) k) (Q (AV.bool false)) (LoopOk PP 72 31 (loopBody PP 72 4).loop lbkC ∧ True ∧ True ∧ ∃ l, Wv Ecs b.1 l ∧ true = true ∧ uM0 (((), m, n, 0, ()), (l, ()), ()) ∧ (∀ (c d : Unit), uR5 (((), m, n, 0, ()), (l, ()), ()) c d → Q (AV.bool true)) ∧ (∀ c d, uR4 (((), m, n, 0, ()), (l, ()), ()) c d → Q (AV.bool c.1)) ∧ True)) := by kernel_rfl
def uCs : Bk × Int × Int × Int × Unit → Prop := fun (b, k, m, n, ()) => k < 9223372036854775807 ∧ m < 9223372036854775807
noncomputable def uE0 : Bk × Int × Int × Int × Unit → AV := fun (b, k, m, n, ()) => .bool (uBz b.1 k m n)
noncomputable def uK5 : CallC := valC uFh uCs uE0
theorem lightBkVal (b : Bk) (k : Int) (m : Int) (n : Int) (hp : uCs (b, k, m, n, ())) : Val PP 72 (uFh.cells id (b, k, m, n, ())) (uE0 (b, k, m, n, ())) := by
 refine Val.ofF mixed (KL_ok (cc_cons uH3 (cc_nil))) (freesC rfl _) (lightBkFn b k m n) ?_
 obtain ⟨hk, hm⟩ := hp
 obtain ⟨W, _⟩ := b
 dsimp only
 rw [ifp_lt]
 split
 ·rename_i h
  exact tells_bool (by show false = (decide ((W.length : Int) ≤ k) && _); rw [decide_eq_false (by simp only [Int.ofNat_eq_natCast] at h; omega)]; rfl)
 ·rename_i h
  have hl : (W.length : Int) ≤ k := by simp only [Int.ofNat_eq_natCast] at h; omega
  refine ⟨lbkOk, trivial, trivial, W, Wk.refl _, (by trivial), ⟨0, rfl, Nat.zero_le _, by omega, hm, rfl⟩, fun _ _ hr => ?_, fun d _ hr => ?_, trivial⟩
  ·have hr' : W.all (fun l => uAn l m n) = true := hr
   exact tells_bool (by show true = (decide ((W.length : Int) ≤ k) && W.all fun l => uAn l m n); rw [decide_eq_true hl, hr']; rfl)
  ·obtain ⟨r, _⟩ := d
   obtain ⟨rfl, hr'⟩ := hr
   have hr2 : W.all (fun l => uAn l m n) = false := hr'
   exact tells_bool (by show false = (decide ((W.length : Int) ≤ k) && W.all fun l => uAn l m n); rw [hr2]; simp)
theorem lightBkCc : CcOk PP 72 uK5 := val_ok rfl (fun ⟨b, ⟨k, ⟨m, ⟨n, _⟩⟩⟩⟩ h => lightBkVal b k m n h)
noncomputable def uFf : Tel (Tn × Unit) := .cons 0 (.aggW Etr) (.nil)
theorem lightTrFn (t : Tn) (Q : AV → Prop) : (callW PP (runW PP (KL [(71, uG4), (72, uK5)] []) 200) 9 (uFf.cells id (t, ())) (stE false) (fun x st => frzW st x Q)) = ( ∃ l, Wv Ell t.1 l ∧ uDa (l, 40, 40, ()) ∧ ifp (uAn l 40 40) (∃ (a : Bk), WkL [AV.vs (List.flatMap Ecs.f t.2.1) t.2.1.length t.2.1.length false none 1] (Ebk.f a) ∧ uCs (a, 40, 40, 40, ()) ∧ ifp (uBz a.1 40 40 40) (Q (AV.bool true)) (Q (AV.bool false))) (Q (AV.bool false))) := by kernel_rfl
def uCr : Tn × Unit → Prop := fun (t, ()) => True
noncomputable def uEz : Tn × Unit → AV := fun (t, ()) => .bool (uCf t)
noncomputable def uK3 : CallC := valC uFf uCr uEz
theorem lightTrVal (t : Tn) (hp : uCr (t, ())) : Val PP 9 (uFf.cells id (t, ())) (uEz (t, ())) := by
 refine Val.ofF mixed (KL_ok (cc_cons uH3 (cc_cons lightBkCc (cc_nil)))) (freesC rfl _) (lightTrFn t) ?_
 refine ⟨t.1, Wk.refl _, by show (40 : Int) < _; decide, ?_⟩
 cases h : uAn t.1 40 40 with
 | false => rw [ifp_neg rfl]; exact tells_bool (by show false = (uAn t.1 40 40 && _); rw [h]; rfl)
 | true =>
  rw [ifp_pos rfl]
  refine ⟨(t.2.1, ()), WkL.refl _, ⟨by decide, by decide⟩, ?_⟩
  dsimp only
  cases h2 : uBz t.2.1 40 40 40 with
  | false => rw [ifp_neg rfl]; exact tells_bool (show false = (uAn t.1 40 40 && uBz t.2.1 40 40 40) by rw [h, h2]; rfl)
  | true => rw [ifp_pos rfl]; exact tells_bool (show true = (uAn t.1 40 40 && uBz t.2.1 40 40 40) by rw [h, h2]; rfl)
theorem lightTrCc : CcOk PP 9 uK3 := val_ok rfl (fun ⟨t, _⟩ h => lightTrVal t h)
noncomputable def uLs : Tel (Cf × Unit) := .cons 0 (.agg Ecf) (.nil)
theorem smallFn (c : Cf) (Q : AV → Prop) : (callW PP (runW PP (KL [] []) 200) 8 (uLs.cells id (c, ())) (stE false) (fun x st => frzW st x Q)) = ( ifp (leInt c.1 16) (ifp (leInt c.2.2.2.1 16) (ifp (leInt c.2.2.1 16) (ifp (leInt c.2.2.2.2.1 64) (ifp (leInt c.2.2.2.2.2.1 4) (ifp (leInt c.2.2.2.2.2.2.1 32) (Q (AV.bool true)) (Q (AV.bool false))) (Q (AV.bool false))) (Q (AV.bool false))) (Q (AV.bool false))) (Q (AV.bool false))) (Q (AV.bool false))) := by kernel_rfl
def uE2 : Cf × Unit → Prop := fun (c, ()) => True
noncomputable def uJ7 : Cf × Unit → AV := fun (c, ()) => .bool (uJ8 c)
noncomputable def uQc : CallC := valC uLs uE2 uJ7
theorem smallVal (c : Cf) (hp : uE2 (c, ())) : Val PP 8 (uLs.cells id (c, ())) (uJ7 (c, ())) := by
 refine Val.ofF mixed (KL_ok (cc_nil)) (freesC rfl _) (smallFn c) ?_
 rw [ifp_le, ifp_le, ifp_le, ifp_le, ifp_le, ifp_le]
 repeat' split
 all_goals exact tells_bool (by simp [uJ8, *])
theorem smallCc : CcOk PP 8 uQc := val_ok rfl (fun ⟨c, _⟩ h => smallVal c h)
def ctB (c : Cf) (t : Tn) : Bool := decide (uAk t.1 = 0) && (decide (uBf t.2.1 = 0) && (decide ((t.1.length : Int) = c.2.2.2.1) && (decide (((t.1.headD []).length : Int) = c.1) && (decide ((t.2.1.length : Int) = c.2.1) && (decide (((t.2.1.headD []).length : Int) = c.2.2.1) &&
 (decide (uC8 t.2.1 = c.1) && (!(t.1.any fun v => v.any uAs) && !(t.2.1.flatten.any fun v => v.any uAs))))))))
def ctE (c : Cf) (t : Tn) : Int := if cfgE c ≠ 0 then cfgE c else if ctB c t = true then 0 else 2
noncomputable def uOm : Tel (Cf × Tn × Unit) := .cons 0 (.agg Ecf) (.cons 1 (.aggW Etr) (.nil))
theorem chkTrFn (c : Cf) (t : Tn) (Q : AV → Prop) : (callW PP (runW PP (KL [(130, cfgK), (137, uLb), (138, uPi), (139, uT2), (140, uT4), (142, uTb)] []) 200) 64 (uOm.cells id (c, t, ())) (stE false) (fun x st => frzW st x Q)) = ( ∃ (a : Cf), AV.agg [I64 c.1, I64 c.2.1, I64 c.2.2.1, I64 c.2.2.2.1, I64 c.2.2.2.2.1, I64 c.2.2.2.2.2.1, I64 c.2.2.2.2.2.2.1, I64 c.2.2.2.2.2.2.2.1] = AV.agg [I64 a.1, I64 a.2.1, I64 a.2.2.1, I64 a.2.2.2.1, I64 a.2.2.2.2.1, I64 a.2.2.2.2.2.1, I64 a.2.2.2.2.2.2.1, I64 a.2.2.2.2.2.2.2.1] ∧ uLc (a, ()) ∧ ifp (!eqInt (cfgE a) 0) (Q (I64 (cfgE a))) (∃ l, Wv Ell t.1 l ∧ uA5 (l, ()) ∧ ifp (!eqInt (uAk l) 0) (Q (I64 2)) (∃ (a : Bk), WkL [AV.vs (List.flatMap Ecs.f t.2.1) t.2.1.length t.2.1.length false none 1] (Ebk.f a) ∧ uCv (a, ()) ∧ ifp (!eqInt (uBf a.1) 0) (Q (I64 2)) (ifp (!eqInt (Int.ofNat t.1.length) c.2.2.2.1) (T3 <| Q (I64 2)) (idxOk 0 t.1.length ∧ ∃ l' n c_1 x w e, nth 0 (List.flatMap Ell.f t.1) = some (AV.vs l' n c_1 x w e) ∧ ifp (!eqInt (Int.ofNat n) c.1) (T7 <| Q (I64 2)) (ifp (!eqInt (Int.ofNat t.2.1.length) c.2.1) (T10 <| Q (I64 2)) (idxOk 0 t.2.1.length ∧ ∃ l' n c_2 x w e, nth 0 (List.flatMap Ecs.f t.2.1) = some (AV.vs l' n c_2 x w e) ∧ ifp (!eqInt (Int.ofNat n) c.2.2.1) (T14 <| Q (I64 2)) (∃ (a : Bk), WkL [AV.vs (List.flatMap Ecs.f t.2.1) t.2.1.length t.2.1.length false none 1] (Ebk.f a) ∧ uJp (a, ()) ∧ ifp (!eqInt (uC8 a.1) c.1) (T15 <| (I64 c.1 = I64 c.1 ∧ True) ∧ Q (I64 2)) (T15 <| (I64 c.1 = I64 c.1 ∧ True) ∧ ∃ l, Wv Ell t.1 l ∧ uGq (l, (), ()) ∧ ifp (l.any fun (v : List Int) => v.any uAs) (Q (I64 2)) (∃ l, Wv Ecs t.2.1 l ∧ uGm (l, ()) ∧ ∃ l_1, Wv Ell l.flatten l_1 ∧ uGq (l_1, (), ()) ∧ ifp (l_1.any fun (v : List Int) => v.any uAs) (Q (I64 2)) (Q (I64 0)))))))))))) := by kernel_rfl
def uB3 : Cf × Tn × Unit → Prop := fun (c, t, ()) => ∀ x ∈ t.2.1, x.length ≤ 4194304
noncomputable def uK8 : Cf × Tn × Unit → AV := fun (c, t, ()) => .int .i64 (ctE c t)
noncomputable def uK9 : CallC := valC uOm uB3 uK8
theorem chkTrVal (c : Cf) (t : Tn) (hp : uB3 (c, t, ())) : Val PP 64 (uOm.cells id (c, t, ())) (uK8 (c, t, ())) := by
 refine Val.ofF mixed (KL_ok (cc_cons uTw (cc_cons uIq (cc_cons uLk (cc_cons bdimCc (cc_cons anyGCc (cc_cons uRg (cc_nil)))))))) (freesC rfl _) (chkTrFn c t) ?_
 have hx : ∀ x ∈ t.2.1, x.length ≤ 4194304 := hp
 refine ⟨c, rfl, trivial, ?_⟩
 rw [ifp_ne]
 split
 ·rename_i h0
  have no : ctB c t = false → (2 : Int) = ctE c t := fun h => by rw [ctE, if_neg (by rw [h0]; simp), if_neg (by rw [h]; simp)]
  refine ⟨t.1, Wk.refl _, trivial, ?_⟩
  rw [ifp_ne]
  split
  ·rename_i h1
   obtain ⟨c1, c2, c3, c4⟩ := uA3 h1
   have g1 : nth 0 (t.1.flatMap Ell.f) = some (lst Ei32 (t.1.headD [])) := by rw [← uFr (by omega)]; exact nth_lst0 (by omega)
   refine ⟨(t.2.1, ()), WkL.refl _, hx, ?_⟩
   rw [ifp_ne]
   split
   ·rename_i h2
    have h2' : uBf t.2.1 = 0 := h2
    obtain ⟨hs, hcw⟩ := uBb h2'
    obtain ⟨hc, hl⟩ := uAu hs
    have g2 : nth 0 (t.2.1.flatMap Ecs.f) = some (lst Ell (t.2.1.headD [])) := by
     have h9 := hc.1
     cases hW : t.2.1 with
     | nil => rw [hW] at h9; simp at h9
     | cons a W => exact nth_lst0 (l := a :: W) (by simp)
    rw [ifp_ne]
    split
    ·rename_i h3
     refine ⟨idx_ok0 (by omega), _, _, _, _, _, _, g1, ?_⟩
     rw [ifp_ne]
     split
     ·rename_i h4
      rw [ifp_ne]
      split
      ·rename_i h5
       refine ⟨idx_ok0 hc.1, _, _, _, _, _, _, g2, ?_⟩
       rw [ifp_ne]
       split
       ·rename_i h6
        refine ⟨(t.2.1, ()), WkL.refl _, hx, ?_⟩
        rw [ifp_ne]
        split
        ·rename_i h7
         have hcl := uFz c3
         have hcf : ∀ x ∈ t.2.1.flatten, cw x = 0 := fun x hx => by
          obtain ⟨l, a1, a2⟩ := List.mem_flatten.1 hx
          exact hcw l a1 x a2
         have hfl := uFz hcf
         have hfb := uB0 (b := 256) (l := t.2.1) (fun x hx => by have := (hl x hx).1; omega)
         refine ⟨trivial, trivial, trivial, trivial, trivial, trivial, trivial, trivial, trivial, trivial, trivial, trivial, trivial, trivial, trivial, ⟨(by trivial), trivial⟩, t.1, Wk.refl _, ⟨by omega, fun x hx => by have := hcl x hx; omega⟩, ?_⟩
         cases h8 : t.1.any (fun v => v.any uAs) with
         | true => rw [ifp_pos rfl]; exact tells_int (no (by simp [ctB, h8]))
         | false =>
          rw [ifp_neg rfl]
          refine ⟨t.2.1, Wk.refl _, ⟨hc.1, by omega, fun x hx => by have := (hl x hx).1; omega⟩, t.2.1.flatten, Wk.refl _, ⟨by omega, fun x hx => by have := hfl x hx; omega⟩, ?_⟩
          cases h9 : t.2.1.flatten.any (fun v => v.any uAs) with
          | true => rw [ifp_pos rfl]; exact tells_int (no (by simp only [ctB, h9]; simp))
          | false =>
           rw [ifp_neg rfl]
           refine tells_int ?_
           have hB : ctB c t = true := by
            rw [ctB, h8, h9, decide_eq_true h1, decide_eq_true h2', decide_eq_true (show (t.1.length : Int) = c.2.2.2.1 from h3), decide_eq_true (show ((t.1.headD []).length : Int) = c.1 from h4), decide_eq_true (show (t.2.1.length : Int) = c.2.1 from h5), decide_eq_true (show ((t.2.1.headD []).length : Int) = c.2.2.1 from h6), decide_eq_true (show uC8 t.2.1 = c.1 from h7)]; rfl
           rw [ctE, if_neg (by rw [h0]; simp), if_pos hB]
        ·rename_i h7
         exact ⟨trivial, trivial, trivial, trivial, trivial, trivial, trivial, trivial, trivial, trivial, trivial, trivial, trivial, trivial, trivial, ⟨(by trivial), trivial⟩, tells_int (no (by have h7' : ¬ uC8 t.2.1 = c.1 := h7; simp [ctB, h7']))⟩
       ·rename_i h6
        exact ⟨trivial, trivial, trivial, trivial, trivial, trivial, trivial, trivial, trivial, trivial, trivial, trivial, trivial, trivial, tells_int (no (by have h6' : ¬ ((t.2.1.headD []).length : Int) = c.2.2.1 := h6; rw [ctB, decide_eq_false h6']; simp))⟩
      ·rename_i h5
       exact ⟨trivial, trivial, trivial, trivial, trivial, trivial, trivial, trivial, trivial, trivial, tells_int (no (by have h5' : ¬ (t.2.1.length : Int) = c.2.1 := h5; rw [ctB, decide_eq_false h5']; simp))⟩
     ·rename_i h4
      exact ⟨trivial, trivial, trivial, trivial, trivial, trivial, trivial, tells_int (no (by have h4' : ¬ ((t.1.headD []).length : Int) = c.1 := h4; rw [ctB, decide_eq_false h4']; simp))⟩
    ·rename_i h3
     exact ⟨trivial, trivial, trivial, tells_int (no (by have h3' : ¬ (t.1.length : Int) = c.2.2.2.1 := h3; rw [ctB, decide_eq_false h3']; simp))⟩
   ·rename_i h2
    exact tells_int (no (by have h2' : ¬ uBf t.2.1 = 0 := h2; rw [ctB, decide_eq_false h2']; simp))
  ·rename_i h1
   exact tells_int (no (by rw [ctB, decide_eq_false h1]; simp))
 ·rename_i h0
  exact tells_int (by rw [ctE, if_pos h0])
theorem uIl : CcOk PP 64 uK9 := val_ok rfl (fun ⟨c, ⟨t, _⟩⟩ h => chkTrVal c t h)
def uAh (c : Cf) (t : Tn) : List Int := if ctE c t = 0 then uAb t.1 ++ uAa t.2.1 else []
theorem uK6 {c : Cf} {t : Tn} (h : ctE c t = 0) : cfgE c = 0 ∧ uAk t.1 = 0 ∧ uBf t.2.1 = 0 ∧ (t.1.length : Int) = c.2.2.2.1 ∧ ((t.1.headD []).length : Int) = c.1 ∧ (t.2.1.length : Int) = c.2.1 ∧ ((t.2.1.headD []).length : Int) = c.2.2.1 ∧ uC8 t.2.1 = c.1 := by
 rw [ctE] at h
 split at h
 ·rename_i h0; exact absurd h h0
 ·rename_i h0
  split at h
  ·rename_i hB
   simp only [ctB, Bool.and_eq_true, decide_eq_true_eq] at hB
   exact ⟨by simpa using h0, hB.1, hB.2.1, hB.2.2.1, hB.2.2.2.1, hB.2.2.2.2.1, hB.2.2.2.2.2.1, hB.2.2.2.2.2.2.1⟩
  ·cases h
theorem uHc {W : List (List (List Int))} (h : uBf W = 0) : W.flatten.length = W.length * (W.headD []).length ∧ W.flatten.flatten.length = W.length * (W.headD []).length * wdB W ∧ (∀ x ∈ W.flatten, cw x = 0 ∧ x.length = wdB W) := by
 obtain ⟨hs, hcw⟩ := uBb h
 obtain ⟨hc, hl⟩ := uAu hs
 have h1 : ∀ x ∈ W.flatten, cw x = 0 ∧ x.length = wdB W := fun x hx => by
  obtain ⟨l, a1, a2⟩ := List.mem_flatten.1 hx
  exact ⟨hcw l a1 x a2, (hl l a1).2 x a2⟩
 have gen : ∀ {α : Type} (l : List (List α)) (d : Nat), (∀ x ∈ l, x.length = d) → l.flatten.length = l.length * d := fun l d h => by
  induction l with
  | nil => simp
  | cons a l ih => rw [List.flatten_cons, List.length_append, ih (fun x hx => h x (by simp [hx])), h a (by simp), List.length_cons, Nat.succ_mul]; omega
 have h2 := gen W _ (fun x hx => (hl x hx).1)
 exact ⟨h2, by rw [gen W.flatten _ (fun x hx => (h1 x hx).2), h2], h1⟩
theorem uK7 {c : Cf} {t : Tn} (h : ctE c t = 0) : 0 < (uAb t.1).length ∧ 0 < (uAa t.2.1).length := by
 obtain ⟨_, h1, h2, _⟩ := uK6 h
 constructor
 ·obtain ⟨a1, a2, a3, a4⟩ := uA3 h1
  rw [uAb, if_pos h1, uAq]
  cases hc : t.1 with
  | nil => rw [hc] at a1; simp at a1
  | cons a l =>
   have := (uCt (a3 a (by rw [hc]; simp))).1
   rw [List.flatten_cons, List.length_append]; omega
 ·obtain ⟨f1, f2, f3⟩ := uHc h2
  obtain ⟨hc, _⟩ := uAu (uBb h2).1
  rw [uAa, if_pos h2, uAq, f2]
  have p1 : 0 < t.2.1.length * (t.2.1.headD []).length := Nat.mul_pos (by omega) (by omega)
  have p2 : 0 < t.2.1.length * (t.2.1.headD []).length * wdB t.2.1 := Nat.mul_pos p1 (by omega)
  omega
noncomputable def uSv : Tel (Cf × Tn × Unit) := .cons 0 (.agg Ecf) (.cons 1 (.aggW Etr) (.nil))
theorem bytsFn (c : Cf) (t : Tn) (Q : AV → Prop) : (callW PP (runW PP (KLS [(64, uK9), (126, bytK), (127, uT3)] [] 5) 200) 59 (uSv.cells id (c, t, ())) (stE false) (fun x st => frzW st x Q)) = ( ∃ (a : Cf), AV.agg [I64 c.1, I64 c.2.1, I64 c.2.2.1, I64 c.2.2.2.1, I64 c.2.2.2.2.1, I64 c.2.2.2.2.2.1, I64 c.2.2.2.2.2.2.1, I64 c.2.2.2.2.2.2.2.1] = AV.agg [I64 a.1, I64 a.2.1, I64 a.2.2.1, I64 a.2.2.2.1, I64 a.2.2.2.2.1, I64 a.2.2.2.2.2.1, I64 a.2.2.2.2.2.2.1, I64 a.2.2.2.2.2.2.2.1] ∧ ∃ (a_1 : Tn), WkL [AV.vs (List.flatMap Ell.f t.1) t.1.length t.1.length false none 1, AV.vs (List.flatMap Ecs.f t.2.1) t.2.1.length t.2.1.length false none 1] (Etr.f a_1) ∧ uB3 (a, a_1, ()) ∧ ifp (!eqInt (ctE a a_1) 0) (Q (AV.tuple [AV.nilSlice, I64 (ctE a a_1)])) (∃ l, Wv Ell t.1 l ∧ uOw (l, ()) ∧ ∃ (a : Bk), WkL [AV.vs (List.flatMap Ecs.f t.2.1) t.2.1.length t.2.1.length false none 1] (Ebk.f a) ∧ uJ0 (a, ()) ∧ idxOk 0 2 ∧ ifp (!leInt 0 (wrapF .i64 (Int.add 0 (Int.ofNat (uAb l).length)))) False (idxOk (wrapF .i64 (Int.add 0 1)) 2 ∧ ifp (!leInt 0 (wrapF .i64 ((wrapF .i64 (Int.add 0 (Int.ofNat (uAb l).length))).add (Int.ofNat (uAa a.1).length)))) False (ifp (!leInt 0 (wrapF .i64 ((wrapF .i64 (Int.add 0 (Int.ofNat (uAb l).length))).add (Int.ofNat (uAa a.1).length)))) False (ifp (!leInt (wrapF .i64 ((wrapF .i64 ((wrapF .i64 (Int.add 0 (Int.ofNat (uAb l).length))).add (Int.ofNat (uAa a.1).length))).sub 0)) 0) ((0 : Int) ≤ wrapF .i64 ((wrapF .i64 ((wrapF .i64 (Int.add 0 (Int.ofNat (uAb l).length))).add (Int.ofNat (uAa a.1).length))).sub 0) ∧ wrapF .i64 ((wrapF .i64 ((wrapF .i64 (Int.add 0 (Int.ofNat (uAb l).length))).add (Int.ofNat (uAa a.1).length))).sub 0) ≤ 16777216 ∧ roomy (natOf (wrapF .i64 ((wrapF .i64 ((wrapF .i64 (Int.add 0 (Int.ofNat (uAb l).length))).add (Int.ofNat (uAa a.1).length))).sub (wrapF .i64 (Int.sub 0 0))))) 1 = true ∧ ifp (allScalar (repl (natOf (wrapF .i64 ((wrapF .i64 ((wrapF .i64 (Int.add 0 (Int.ofNat (uAb l).length))).add (Int.ofNat (uAa a.1).length))).sub (wrapF .i64 (Int.sub 0 0))))) [AV.int .u8 0]) && true) (natOf (wrapF .i64 ((wrapF .i64 ((wrapF .i64 (Int.add 0 (Int.ofNat (uAb l).length))).add (Int.ofNat (uAa a.1).length))).sub (wrapF .i64 (Int.sub 0 0)))) ≠ 0 ∧ roomy (natOf (wrapF .i64 ((wrapF .i64 ((wrapF .i64 (Int.add 0 (Int.ofNat (uAb l).length))).add (Int.ofNat (uAa a.1).length))).sub (wrapF .i64 (Int.sub 0 0))))) 1 = true ∧ (0 : Int) ≤ 0 ∧ (0 : Int) ≤ ↑(natOf (wrapF .i64 ((wrapF .i64 ((wrapF .i64 (Int.add 0 (Int.ofNat (uAb l).length))).add (Int.ofNat (uAa a.1).length))).sub (wrapF .i64 (Int.sub 0 0))))) ∧ idxOk 0 2 ∧ (List.flatMap Eu8.f (uAb l)).length = (uAb l).length.mul 1 ∧ ifp (allScalar (List.flatMap Eu8.f (uAb l)) && true) ((natOf (wrapF .i64 ((wrapF .i64 ((wrapF .i64 (Int.add 0 (Int.ofNat (uAb l).length))).add (Int.ofNat (uAa a.1).length))).sub (wrapF .i64 (Int.sub 0 0))))).sub 0 < ((natOf 0).sub 0).add (uAb l).length ∧ 0 = 0 ∧ 0 = (repl (natOf (wrapF .i64 ((wrapF .i64 ((wrapF .i64 (Int.add 0 (Int.ofNat (uAb l).length))).add (Int.ofNat (uAa a.1).length))).sub (wrapF .i64 (Int.sub 0 0))))) [AV.int .u8 0]).length ∧ roomy (((natOf 0).sub 0).add (uAb l).length) 1 = true ∧ idxOk (wrapF .i64 (Int.add 0 1)) 2 ∧ (List.flatMap Eu8.f (uAa a.1)).length = (uAa a.1).length.mul 1 ∧ ifp (allScalar (List.flatMap Eu8.f (uAa a.1)) && true) (((natOf 0).sub 0).add (uAb l).length < (((natOf 0).sub 0).add (uAb l).length).add (uAa a.1).length ∧ 0 = 0 ∧ (Nat.add 0 (uAb l).length).mul 1 = (repl (natOf (wrapF .i64 ((wrapF .i64 ((wrapF .i64 (Int.add 0 (Int.ofNat (uAb l).length))).add (Int.ofNat (uAa a.1).length))).sub (wrapF .i64 (Int.sub 0 0))))) [AV.int .u8 0] ++ List.flatMap Eu8.f (uAb l)).length ∧ roomy ((((natOf 0).sub 0).add (uAb l).length).add (uAa a.1).length) 1 = true ∧ True ∧ (AV.agg [AV.vs (List.flatMap Ecs.f t.2.1) t.2.1.length t.2.1.length false none 1] = AV.agg [AV.vs (List.flatMap Ecs.f t.2.1) t.2.1.length t.2.1.length false none 1] ∧ True) ∧ Nat.add 0 (((Nat.add 0 (uAb l).length).add (uAa a.1).length).mul 1) ≤ (repl (natOf (wrapF .i64 ((wrapF .i64 ((wrapF .i64 (Int.add 0 (Int.ofNat (uAb l).length))).add (Int.ofNat (uAa a.1).length))).sub (wrapF .i64 (Int.sub 0 0))))) [AV.int .u8 0] ++ List.flatMap Eu8.f (uAb l) ++ List.flatMap Eu8.f (uAa a.1)).length ∧ Q (AV.tuple [AV.vs (List.take (((Nat.add 0 (uAb l).length).add (uAa a.1).length).mul 1) (List.drop 0 (repl (natOf (wrapF .i64 ((wrapF .i64 ((wrapF .i64 (Int.add 0 (Int.ofNat (uAb l).length))).add (Int.ofNat (uAa a.1).length))).sub (wrapF .i64 (Int.sub 0 0))))) [AV.int .u8 0] ++ List.flatMap Eu8.f (uAb l) ++ List.flatMap Eu8.f (uAa a.1)))) ((Nat.add 0 (uAb l).length).add (uAa a.1).length) ((Nat.add 0 (uAb l).length).add (uAa a.1).length) false none 1, I64 0]) ∨ (Nat.add 0 (uAb l).length).add (uAa a.1).length ≤ Nat.add 0 (uAb l).length ∧ (uAa a.1).length ≠ 0 ∧ (Nat.add 0 ((Nat.add 0 (uAb l).length).mul 1)).add (List.flatMap Eu8.f (uAa a.1)).length ≤ (repl (natOf (wrapF .i64 ((wrapF .i64 ((wrapF .i64 (Int.add 0 (Int.ofNat (uAb l).length))).add (Int.ofNat (uAa a.1).length))).sub (wrapF .i64 (Int.sub 0 0))))) [AV.int .u8 0] ++ List.flatMap Eu8.f (uAb l)).length ∧ True ∧ (AV.agg [AV.vs (List.flatMap Ecs.f t.2.1) t.2.1.length t.2.1.length false none 1] = AV.agg [AV.vs (List.flatMap Ecs.f t.2.1) t.2.1.length t.2.1.length false none 1] ∧ True) ∧ Nat.add 0 (((Nat.add 0 (uAb l).length).add (uAa a.1).length).mul 1) ≤ (setAt (Nat.add 0 ((Nat.add 0 (uAb l).length).mul 1)) (List.flatMap Eu8.f (uAa a.1)) (repl (natOf (wrapF .i64 ((wrapF .i64 ((wrapF .i64 (Int.add 0 (Int.ofNat (uAb l).length))).add (Int.ofNat (uAa a.1).length))).sub (wrapF .i64 (Int.sub 0 0))))) [AV.int .u8 0] ++ List.flatMap Eu8.f (uAb l))).length ∧ Q (AV.tuple [AV.vs (List.take (((Nat.add 0 (uAb l).length).add (uAa a.1).length).mul 1) (List.drop 0 (setAt (Nat.add 0 ((Nat.add 0 (uAb l).length).mul 1)) (List.flatMap Eu8.f (uAa a.1)) (repl (natOf (wrapF .i64 ((wrapF .i64 ((wrapF .i64 (Int.add 0 (Int.ofNat (uAb l).length))).add (Int.ofNat (uAa a.1).length))).sub (wrapF .i64 (Int.sub 0 0))))) [AV.int .u8 0] ++ List.flatMap Eu8.f (uAb l))))) ((Nat.add 0 (uAb l).length).add (uAa a.1).length) (Nat.add 0 (uAb l).length) false none 1, I64 0])) False ∨ Nat.add 0 (uAb l).length ≤ (natOf (wrapF .i64 ((wrapF .i64 ((wrapF .i64 (Int.add 0 (Int.ofNat (uAb l).length))).add (Int.ofNat (uAa a.1).length))).sub (wrapF .i64 (Int.sub 0 0))))).sub 0 ∧ (uAb l).length ≠ 0 ∧ Nat.add 0 (List.flatMap Eu8.f (uAb l)).length ≤ (repl (natOf (wrapF .i64 ((wrapF .i64 ((wrapF .i64 (Int.add 0 (Int.ofNat (uAb l).length))).add (Int.ofNat (uAa a.1).length))).sub (wrapF .i64 (Int.sub 0 0))))) [AV.int .u8 0]).length ∧ idxOk (wrapF .i64 (Int.add 0 1)) 2 ∧ (List.flatMap Eu8.f (uAa a.1)).length = (uAa a.1).length.mul 1 ∧ ifp (allScalar (List.flatMap Eu8.f (uAa a.1)) && true) ((natOf (wrapF .i64 ((wrapF .i64 ((wrapF .i64 (Int.add 0 (Int.ofNat (uAb l).length))).add (Int.ofNat (uAa a.1).length))).sub (wrapF .i64 (Int.sub 0 0))))).sub 0 < (((natOf 0).sub 0).add (uAb l).length).add (uAa a.1).length ∧ 0 = 0 ∧ (Nat.add 0 (uAb l).length).mul 1 = (setAt 0 (List.flatMap Eu8.f (uAb l)) (repl (natOf (wrapF .i64 ((wrapF .i64 ((wrapF .i64 (Int.add 0 (Int.ofNat (uAb l).length))).add (Int.ofNat (uAa a.1).length))).sub (wrapF .i64 (Int.sub 0 0))))) [AV.int .u8 0])).length ∧ roomy ((((natOf 0).sub 0).add (uAb l).length).add (uAa a.1).length) 1 = true ∧ True ∧ (AV.agg [AV.vs (List.flatMap Ecs.f t.2.1) t.2.1.length t.2.1.length false none 1] = AV.agg [AV.vs (List.flatMap Ecs.f t.2.1) t.2.1.length t.2.1.length false none 1] ∧ True) ∧ Nat.add 0 (((Nat.add 0 (uAb l).length).add (uAa a.1).length).mul 1) ≤ (setAt 0 (List.flatMap Eu8.f (uAb l)) (repl (natOf (wrapF .i64 ((wrapF .i64 ((wrapF .i64 (Int.add 0 (Int.ofNat (uAb l).length))).add (Int.ofNat (uAa a.1).length))).sub (wrapF .i64 (Int.sub 0 0))))) [AV.int .u8 0]) ++ List.flatMap Eu8.f (uAa a.1)).length ∧ Q (AV.tuple [AV.vs (List.take (((Nat.add 0 (uAb l).length).add (uAa a.1).length).mul 1) (List.drop 0 (setAt 0 (List.flatMap Eu8.f (uAb l)) (repl (natOf (wrapF .i64 ((wrapF .i64 ((wrapF .i64 (Int.add 0 (Int.ofNat (uAb l).length))).add (Int.ofNat (uAa a.1).length))).sub (wrapF .i64 (Int.sub 0 0))))) [AV.int .u8 0]) ++ List.flatMap Eu8.f (uAa a.1)))) ((Nat.add 0 (uAb l).length).add (uAa a.1).length) ((Nat.add 0 (uAb l).length).add (uAa a.1).length) false none 1, I64 0]) ∨ (Nat.add 0 (uAb l).length).add (uAa a.1).length ≤ (natOf (wrapF .i64 ((wrapF .i64 ((wrapF .i64 (Int.add 0 (Int.ofNat (uAb l).length))).add (Int.ofNat (uAa a.1).length))).sub (wrapF .i64 (Int.sub 0 0))))).sub 0 ∧ (uAa a.1).length ≠ 0 ∧ (Nat.add 0 ((Nat.add 0 (uAb l).length).mul 1)).add (List.flatMap Eu8.f (uAa a.1)).length ≤ (setAt 0 (List.flatMap Eu8.f (uAb l)) (repl (natOf (wrapF .i64 ((wrapF .i64 ((wrapF .i64 (Int.add 0 (Int.ofNat (uAb l).length))).add (Int.ofNat (uAa a.1).length))).sub (wrapF .i64 (Int.sub 0 0))))) [AV.int .u8 0])).length ∧ True ∧ (AV.agg [AV.vs (List.flatMap Ecs.f t.2.1) t.2.1.length t.2.1.length false none 1] = AV.agg [AV.vs (List.flatMap Ecs.f t.2.1) t.2.1.length t.2.1.length false none 1] ∧ True) ∧ Nat.add 0 (((Nat.add 0 (uAb l).length).add (uAa a.1).length).mul 1) ≤ (setAt (Nat.add 0 ((Nat.add 0 (uAb l).length).mul 1)) (List.flatMap Eu8.f (uAa a.1)) (setAt 0 (List.flatMap Eu8.f (uAb l)) (repl (natOf (wrapF .i64 ((wrapF .i64 ((wrapF .i64 (Int.add 0 (Int.ofNat (uAb l).length))).add (Int.ofNat (uAa a.1).length))).sub (wrapF .i64 (Int.sub 0 0))))) [AV.int .u8 0]))).length ∧ Q (AV.tuple [AV.vs (List.take (((Nat.add 0 (uAb l).length).add (uAa a.1).length).mul 1) (List.drop 0 (setAt (Nat.add 0 ((Nat.add 0 (uAb l).length).mul 1)) (List.flatMap Eu8.f (uAa a.1)) (setAt 0 (List.flatMap Eu8.f (uAb l)) (repl (natOf (wrapF .i64 ((wrapF .i64 ((wrapF .i64 (Int.add 0 (Int.ofNat (uAb l).length))).add (Int.ofNat (uAa a.1).length))).sub (wrapF .i64 (Int.sub 0 0))))) [AV.int .u8 0]))))) ((Nat.add 0 (uAb l).length).add (uAa a.1).length) ((natOf (wrapF .i64 ((wrapF .i64 ((wrapF .i64 (Int.add 0 (Int.ofNat (uAb l).length))).add (Int.ofNat (uAa a.1).length))).sub (wrapF .i64 (Int.sub 0 0))))).sub 0) (mxEx none false) none 1, I64 0])) False) False) False) (idxOk 0 2 ∧ (List.flatMap Eu8.f (uAb l)).length = (uAb l).length.mul 1 ∧ ifp (allScalar (List.flatMap Eu8.f (uAb l)) && true) ((uAb l).length ≠ 0 ∧ roomy (uAb l).length 1 = true ∧ idxOk (wrapF .i64 (Int.add 0 1)) 2 ∧ (List.flatMap Eu8.f (uAa a.1)).length = (uAa a.1).length.mul 1 ∧ ifp (allScalar (List.flatMap Eu8.f (uAa a.1)) && true) ((uAb l).length < (uAb l).length.add (uAa a.1).length ∧ 0 = 0 ∧ (uAb l).length.mul 1 = (List.flatMap Eu8.f (uAb l)).length ∧ roomy ((uAb l).length.add (uAa a.1).length) 1 = true ∧ True ∧ (AV.agg [AV.vs (List.flatMap Ecs.f t.2.1) t.2.1.length t.2.1.length false none 1] = AV.agg [AV.vs (List.flatMap Ecs.f t.2.1) t.2.1.length t.2.1.length false none 1] ∧ True) ∧ Nat.add 0 (((uAb l).length.add (uAa a.1).length).mul 1) ≤ (List.flatMap Eu8.f (uAb l) ++ List.flatMap Eu8.f (uAa a.1)).length ∧ Q (AV.tuple [AV.vs (List.take (((uAb l).length.add (uAa a.1).length).mul 1) (List.drop 0 (List.flatMap Eu8.f (uAb l) ++ List.flatMap Eu8.f (uAa a.1)))) ((uAb l).length.add (uAa a.1).length) ((uAb l).length.add (uAa a.1).length) false none 1, I64 0]) ∨ (uAb l).length.add (uAa a.1).length ≤ (uAb l).length ∧ (uAa a.1).length ≠ 0 ∧ (Nat.add 0 ((uAb l).length.mul 1)).add (List.flatMap Eu8.f (uAa a.1)).length ≤ (List.flatMap Eu8.f (uAb l)).length ∧ True ∧ (AV.agg [AV.vs (List.flatMap Ecs.f t.2.1) t.2.1.length t.2.1.length false none 1] = AV.agg [AV.vs (List.flatMap Ecs.f t.2.1) t.2.1.length t.2.1.length false none 1] ∧ True) ∧ Nat.add 0 (((uAb l).length.add (uAa a.1).length).mul 1) ≤ (setAt (Nat.add 0 ((uAb l).length.mul 1)) (List.flatMap Eu8.f (uAa a.1)) (List.flatMap Eu8.f (uAb l))).length ∧ Q (AV.tuple [AV.vs (List.take (((uAb l).length.add (uAa a.1).length).mul 1) (List.drop 0 (setAt (Nat.add 0 ((uAb l).length.mul 1)) (List.flatMap Eu8.f (uAa a.1)) (List.flatMap Eu8.f (uAb l))))) ((uAb l).length.add (uAa a.1).length) (uAb l).length false none 1, I64 0])) False) False)))))) := by kernel_rfl
def uI1 : Cf × Tn × Unit → Prop := fun (c, t, ()) => (∀ x ∈ t.2.1, x.length ≤ 4194304) ∧ t.2.1.flatten.length ≤ 4096 ∧ (uAb t.1).length + (uAa t.2.1).length ≤ 16777216
noncomputable def uOu : Cf × Tn × Unit → AV := fun (c, t, ()) => .tuple [lst Eu8 (uAh c t), .int .i64 (ctE c t)]
noncomputable def uTx : CallC := valC uSv uI1 uOu
theorem bytsVal (c : Cf) (t : Tn) (hp : uI1 (c, t, ())) : Val PP 59 (uSv.cells id (c, t, ())) (uOu (c, t, ())) := by
 refine Val.ofF mixed (KLS_ok (cc_cons uIl (cc_cons bytCc (cc_cons bbytCc (cc_nil))))) (freesC rfl _) (bytsFn c t) ?_
 obtain ⟨hx, hf, htot⟩ := hp
 refine ⟨c, rfl, t, WkL.refl _, hx, ?_⟩
 rw [ifp_ne]
 split
 ·rename_i h
  obtain ⟨k1, k2⟩ := uK7 h
  have ev : uAh c t = uAb t.1 ++ uAa t.2.1 := by rw [uAh, if_pos h]
  refine ⟨t.1, Wk.refl _, trivial, (t.2.1, ()), WkL.refl _, ⟨hx, hf⟩, idx_ok0 (by decide), ?_⟩
  dsimp only
  generalize hA : uAb t.1 = A at *
  generalize hB : uAa t.2.1 = Bb at *
  have e1 : wrapF .i64 (Int.add 0 (Int.ofNat A.length)) = ((A.length : Nat) : Int) := by rw [show Int.add 0 (Int.ofNat A.length) = ((A.length : Nat) : Int) from Int.zero_add _, w64 (by omega) (by omega)]
  have e2 : wrapF .i64 (Int.add ((A.length : Nat) : Int) (Int.ofNat Bb.length)) = ((A.length + Bb.length : Nat) : Int) := by rw [show Int.add ((A.length : Nat) : Int) (Int.ofNat Bb.length) = ((A.length + Bb.length : Nat) : Int) from rfl, w64 (by omega) (by omega)]
  have e3 : wrapF .i64 (Int.sub ((A.length + Bb.length : Nat) : Int) 0) = ((A.length + Bb.length : Nat) : Int) := by rw [show Int.sub ((A.length + Bb.length : Nat) : Int) 0 = ((A.length + Bb.length : Nat) : Int) from Int.sub_zero _, w64 (by omega) (by omega)]
  have e4 : wrapF .i64 (Int.sub 0 0) = 0 := rfl
  have e5 : wrapF .i64 (Int.add 0 1) = 1 := rfl
  simp only [e1, e2, e3, e4, e5, natOf_nat]
  have lA : (A.flatMap Eu8.f).length = A.length := (Enc.flen Eu8 _).trans (Nat.mul_one _)
  have lB : (Bb.flatMap Eu8.f).length = Bb.length := (Enc.flen Eu8 _).trans (Nat.mul_one _)
  rw [ifp_lt, if_neg (by omega)]
  refine ⟨⟨by decide, by decide⟩, ?_⟩
  rw [ifp_lt, if_neg (by omega), ifp_lt, if_neg (by omega), ifp_lt, if_pos (by omega)]
  refine ⟨by omega, by omega, roomy_small (by omega) (by decide), ?_⟩
  rw [show [AV.int .u8 (0 : Int)] = Eu8.f 0 from rfl, repl_enc, ifp_pos (by rw [Enc.fscal Eu8]; rfl)]
  have lR : ((List.replicate (A.length + Bb.length) (0 : Int)).flatMap Eu8.f).length = A.length + Bb.length := (Enc.flen Eu8 _).trans (by show (List.replicate _ _).length * 1 = _; simp)
  refine ⟨by omega, roomy_small (by omega) (by decide), Int.le_refl _, by omega, idx_ok0 (by decide), Enc.flen Eu8 _, ?_⟩
  rw [ifp_pos (by rw [Enc.fscal Eu8]; rfl)]
  have z1 : setAt 0 (A.flatMap Eu8.f) ((List.replicate (A.length + Bb.length) (0 : Int)).flatMap Eu8.f) = (A ++ List.replicate Bb.length 0).flatMap Eu8.f := by
   rw [setAt_app (E := Eu8) rfl (by simp)]
   congr 1
   rw [List.take_zero, List.nil_append, Nat.zero_add, List.drop_replicate, show A.length + Bb.length - A.length = Bb.length by omega]
  have z2 : setAt A.length (Bb.flatMap Eu8.f) ((A ++ List.replicate Bb.length (0 : Int)).flatMap Eu8.f) = (A ++ Bb).flatMap Eu8.f := by
   rw [setAt_app (E := Eu8) rfl (by simp)]
   congr 1
   rw [List.take_left', List.drop_of_length_le (by simp), List.append_nil]; rfl
  refine Or.inr ⟨by show Nat.add 0 A.length ≤ _; simp only [Nat.add_eq, Nat.sub_eq]; omega, by omega, by rw [lA, lR]; simp only [Nat.add_eq]; omega, ⟨by decide, by decide⟩, Enc.flen Eu8 _, ?_⟩
  rw [ifp_pos (by rw [Enc.fscal Eu8]; rfl)]
  have q0 : Nat.add 0 (Nat.mul (Nat.add 0 A.length) 1) = A.length := by show 0 + (0 + A.length) * 1 = _; omega
  rw [z1]
  simp only [q0, z2]
  refine Or.inr ⟨by show 0 + A.length + Bb.length ≤ A.length + Bb.length - 0; omega, by omega, by rw [lB, Enc.flen Eu8]; show A.length + Bb.length ≤ (A ++ List.replicate Bb.length 0).length * 1; simp, trivial, ⟨(by trivial), trivial⟩, by rw [Enc.flen Eu8]; show 0 + (0 + A.length + Bb.length) * 1 ≤ (A ++ Bb).length * 1; simp, ?_⟩
  show Tells _ (.tuple [lst Eu8 (uAh c t), .int .i64 (ctE c t)])
  rw [ev, h]
  refine tells_tuple ⟨tells_lst ⟨?_, by show 0 + A.length + Bb.length = _; simp, rfl⟩, tells_int rfl, trivial⟩
  rw [List.drop_zero, List.take_of_length_le (by rw [Enc.flen Eu8]; show (A ++ Bb).length * 1 ≤ (0 + A.length + Bb.length) * 1; simp)]
 ·rename_i h
  have ev : uAh c t = [] := by rw [uAh, if_neg h]
  show Tells _ (.tuple [lst Eu8 (uAh c t), .int .i64 (ctE c t)])
  rw [ev]; exact tells_tuple ⟨tells_nil _, tells_int rfl, trivial⟩
theorem bytsCc : CcOk PP 59 uTx := val_ok rfl (fun ⟨c, ⟨t, _⟩⟩ h => bytsVal c t h)
end Go.Proofs.YtcnnjlhecndhnaaGreat
namespace Go.Proofs.YtcnnjlhecndhnaaGreat
open Go.Det Go.RowKit
set_option maxRecDepth 100000
def uFc (d p : Int) : Int := if 1 ≤ d ∧ d ≤ 1024 ∧ 1 ≤ p ∧ Int.tmod d p = 0 then 0 else 2
theorem uEw {d p : Int} : uFc d p = 0 ↔ 1 ≤ d ∧ d ≤ 1024 ∧ 1 ≤ p ∧ Int.tmod d p = 0 := by
 rw [uFc]; split
 ·rename_i h; exact ⟨fun _ => h, fun _ => rfl⟩
 ·rename_i h; exact ⟨fun h9 => (by cases h9), fun h9 => absurd h9 h⟩
noncomputable def uRy : Tel (Int × Int × Unit) := .ji 0 (.ji 1 (.nil))
theorem pchkFn (d p : Int) (Q : AV → Prop) : (callW PP (runW PP (KL [] []) 200) 198 (uRy.cells id (d, p, ())) (stE false) (fun x st => frzW st x Q)) = ( ifp (!leInt 1 d) (Q (I64 2)) (ifp (!leInt d 1024) (Q (I64 2)) (ifp (!leInt 1 p) (Q (I64 2)) (p ≠ 0 ∧ ifp (!eqInt (d.tmod p) 0) (Q (I64 2)) (Q (I64 0)))))) := by kernel_rfl
def uHo : Int × Int × Unit → Prop := fun (d, p, ()) => True
noncomputable def uMm : Int × Int × Unit → AV := fun (d, p, ()) => .int .i64 (uFc d p)
noncomputable def uTo : CallC := valC uRy uHo uMm
theorem pchkVal (d : Int) (p : Int) (hp : uHo (d, p, ())) : Val PP 198 (uRy.cells id (d, p, ())) (uMm (d, p, ())) := by
 refine Val.ofF mixed (KL_ok (cc_nil)) (freesC rfl _) (pchkFn d p) ?_
 rw [ifp_lt]
 split
 ·exact tells_int (by rw [uFc, if_neg (by omega)])
 ·rw [ifp_lt]
  split
  ·exact tells_int (by rw [uFc, if_neg (by omega)])
  ·rw [ifp_lt]
   split
   ·exact tells_int (by rw [uFc, if_neg (by omega)])
   ·refine ⟨by omega, ?_⟩
    rw [ifp_ne]
    split
    ·rename_i h; exact tells_int (by rw [uFc, if_pos ⟨by omega, by omega, by omega, h⟩])
    ·rename_i h; exact tells_int (by rw [uFc, if_neg (by rintro ⟨_, _, _, h9⟩; exact h h9)])
theorem pchkCc : CcOk PP 198 uTo := val_ok rfl (fun ⟨d, ⟨p, _⟩⟩ h => pchkVal d p h)
abbrev uLq := ((List Int) × Unit) × (Unit)
noncomputable def uR1 : Tel ((List Int) × Unit) := .cons 0 (.lst Eu8) (.nil)
noncomputable def uMr : BTel (Unit) := .nil
abbrev uA0 := (List Int) × Int × Unit
abbrev uEr := uA0 × Unit
abbrev uAi := Unit × Unit
noncomputable abbrev uAm := Bk.row (.cons 0 (.lst Eu8) (.ji 1 (.nil)))
noncomputable def uHs (R0 : uLq → uAi → uEr → Prop) : List (Res uLq) := [⟨Unit × Unit, uEr, .cons 0 (.ptr 0) (.nil), .cons uAm (.nil), R0⟩]
theorem onewFn (x : List Int) (R0 : uLq → uAi → uEr → Prop) : (callW PP (runW PP (KL [] []) 200) 199 (uR1.cells id (x, ())) (stL true (uMr.obs id ())) (fun v st => resAny 0 ((x, ()), ()) v st (uHs R0))) = ( (x.flatMap Eu8.f).length = x.length.mul 1 ∧ ifp (allScalar (x.flatMap Eu8.f) && true) (ifp (roomy (Nat.add 0 x.length) 1) (∃ (l : List Int), Wk (AV.vs ([] ++ x.flatMap Eu8.f) (Nat.add 0 x.length) (Nat.add 0 x.length) false (some 1) 1) (lst Eu8 l) ∧ true = true ∧ R0 ((x, ()), ()) ((), ()) ((l, 0, ()), ())) False) False) := by kernel_rfl
def uHt : uLq → Prop := fun ((x, ()), ()) => x.length ≤ 16777216
def uMq : uLq → uAi → uEr → Prop := fun ((x, ()), ()) _ ((b2, e2, _), _) => b2 = x ∧ e2 = 0
noncomputable def uTr : CallC := callC 0 uR1 uMr uHt (uHs uMq)
theorem onewStep (z : uLq) (hp : uHt z) : callW PP (runW PP (KL [] []) 200) 199 (uR1.cells id z.1) (stL true (uMr.obs id z.2)) (fun v st => resAny 0 z v st (uHs uMq)) := by
 obtain ⟨⟨x, _⟩, _⟩ := z
 refine (onewFn x _).mpr ?_
 have hx : x.length ≤ 16777216 := hp
 refine ⟨Enc.flen Eu8 x, ?_⟩
 rw [ifp_pos (by rw [Enc.fscal Eu8]; rfl), ifp_pos (roomy_small (by simp only [Nat.add_eq]; omega) (by decide))]
 exact ⟨x, wk_vs ⟨rfl, by show 0 + x.length = _; omega, rfl⟩, (by trivial), rfl, rfl⟩
theorem onewCc : CcOk PP 199 uTr := call_ok mixed (KL_ok (cc_nil)) rfl onewStep
abbrev uLp := (Unit × Int × Unit) × uEr
noncomputable def uR0 : Tel (Unit × Int × Unit) := .cons 0 (.ptr 0) (.ji 1 (.nil))
noncomputable def uMp : BTel uEr := .cons uAm (.nil)
noncomputable def uHr (R0 : uLp → (Int × Unit) → uEr → Prop) : List (Res uLp) := [⟨Int × Unit, uEr, .ji 0 (.nil), .cons uAm (.nil), R0⟩]
theorem osigFn (n : Int) (b : List Int) (e : Int) (R0 : uLp → (Int × Unit) → uEr → Prop) : (callW PP (runW PP (KL [(196, ofK), (195, sgnK)] []) 200) 200 (uR0.cells id ((), n, ())) (stL true (uMp.obs id ((b, e, ()), ()))) (fun v st => resAny 1 (((), n, ()), (b, e, ()), ()) v st (uHr R0))) = ( ifp (!eqInt e 0) (∃ (l : List Int), Wk AV.nilSlice (lst Eu8 l) ∧ uFd (l, ()) ∧ uCa (ofB l, n, ()) ∧ ∃ l_1, Wv Eu8 b l_1 ∧ true = true ∧ R0 (((), n, ()), (b, e, ()), ()) (s32 (ofB l), ()) ((l_1, e, ()), ())) (ifp (!leInt 0 n) (∃ (l : List Int), Wk AV.nilSlice (lst Eu8 l) ∧ uFd (l, ()) ∧ uCa (ofB l, n, ()) ∧ ∃ l_1, Wv Eu8 b l_1 ∧ true = true ∧ R0 (((), n, ()), (b, e, ()), ()) (s32 (ofB l), ()) ((l_1, 2, ()), ())) (ifp (!leInt n 8) (∃ (l : List Int), Wk AV.nilSlice (lst Eu8 l) ∧ uFd (l, ()) ∧ uCa (ofB l, n, ()) ∧ ∃ l_1, Wv Eu8 b l_1 ∧ true = true ∧ R0 (((), n, ()), (b, e, ()), ()) (s32 (ofB l), ()) ((l_1, 2, ()), ())) (ifp (!leInt n (Int.ofNat b.length)) (∃ (l : List Int), Wk AV.nilSlice (lst Eu8 l) ∧ uFd (l, ()) ∧ uCa (ofB l, n, ()) ∧ ∃ l_1, Wv Eu8 b l_1 ∧ true = true ∧ R0 (((), n, ()), (b, e, ()), ()) (s32 (ofB l), ()) ((l_1, 5, ()), ())) ((0 : Int) ≤ n ∧ n ≤ ↑b.length ∧ (0 : Int) ≤ n ∧ n ≤ ↑(natOf n) ∧ natOf n ≤ b.length ∧ (b.flatMap Eu8.f).length = b.length.mul 1 ∧ (0 : Int) ≤ n ∧ n ≤ ↑b.length ∧ b.length ≤ b.length ∧ (b.flatMap Eu8.f).length = b.length.mul 1 ∧ ∃ (l : List Int), Wk (AV.vs (List.take (((natOf n).sub 0).mul 1) (List.drop 0 (b.flatMap Eu8.f))) ((natOf n).sub 0) ((natOf n).sub 0) (mxEx (some (I64 n)) false) none 1) (lst Eu8 l) ∧ uFd (l, ()) ∧ uCa (ofB l, n, ()) ∧ ∃ (l_1 : List Int), Wk (AV.vs (List.take ((b.length.sub (natOf n)).mul 1) (List.drop ((natOf n).mul 1) (b.flatMap Eu8.f))) (b.length.sub (natOf n)) (b.length.sub (natOf n)) (mxEx none false) none 1) (lst Eu8 l_1) ∧ true = true ∧ R0 (((), n, ()), (b, e, ()), ()) (s32 (ofB l), ()) ((l_1, e, ()), ())))))) := by kernel_rfl
def uA8 : uLp → Prop := fun (((), n, ()), (b, e, ()), ()) => n = 4 ∧ e = 0 ∧ 4 ≤ b.length ∧ b.length ≤ 16777216 ∧ uAe b
def uB5 : uLp → (Int × Unit) → uEr → Prop := fun (((), n, ()), (b, e, ()), ()) (v, _) ((b2, e2, _), _) => v = s32 (ofB (b.take 4)) ∧ b2 = b.drop 4 ∧ e2 = 0
noncomputable def uTq : CallC := callC 1 uR0 uMp uA8 (uHr uB5)
theorem osigStep (z : uLp) (hp : uA8 z) : callW PP (runW PP (KL [(196, ofK), (195, sgnK)] []) 200) 200 (uR0.cells id z.1) (stL true (uMp.obs id z.2)) (fun v st => resAny 1 z v st (uHr uB5)) := by
 obtain ⟨⟨_, n, _⟩, ⟨⟨b, e, _⟩, _⟩⟩ := z
 refine (osigFn n b e _).mpr ?_
 obtain ⟨rfl, rfl, h4, hb, hx⟩ := hp
 have n4 : natOf 4 = 4 := rfl
 have ht4 : uAe (b.take 4) := fun y hy => hx y (List.mem_of_mem_take hy)
 have hl4 : (b.take 4).length = 4 := by rw [List.length_take]; omega
 have hr := uDo ht4
 rw [ifp_ne, if_pos rfl, ifp_lt, if_neg (by decide), ifp_lt, if_neg (by decide), ifp_lt, if_neg (by simp only [Int.ofNat_eq_natCast]; omega)]
 simp only [n4]
 refine ⟨by decide, by omega, by decide, by decide, h4, Enc.flen Eu8 b, by decide, by omega, Nat.le_refl _, Enc.flen Eu8 b, b.take 4, wk_vs ⟨?_, ?_, rfl⟩, ⟨ht4, by rw [hl4]; decide⟩, ⟨rfl, hr.1, hr.2⟩, b.drop 4, wk_vs ⟨?_, ?_, rfl⟩, (by trivial), rfl, rfl, rfl⟩
 ·show List.take 4 (List.drop 0 (b.flatMap Eu8.f)) = _
  rw [List.drop_zero, ftake1 (E := Eu8) rfl]
 ·show (4 : Nat) = _; omega
 ·show List.take ((b.length - 4) * 1) (List.drop 4 (b.flatMap Eu8.f)) = _
  rw [fdrop1 (E := Eu8) rfl, List.take_of_length_le (by rw [Enc.flen Eu8, List.length_drop]; exact Nat.le_refl _)]
 ·show b.length - 4 = _; rw [List.length_drop]
theorem uKy : CcOk PP 200 uTq := call_ok mixed (KL_ok (cc_cons ofCc (cc_cons uRh (cc_nil)))) rfl osigStep
def nums : List Int → Nat → List Int
 | _, 0 => []
 | b, n + 1 => s32 (ofB (b.take 4)) :: nums (b.drop 4) n
def vecs (w : Nat) : List Int → Nat → List (List Int)
 | _, 0 => []
 | b, n + 1 => nums b w :: vecs w (b.drop (w * 4)) n
def prts (w m : Nat) : List Int → Nat → List (List (List Int))
 | _, 0 => []
 | b, n + 1 => vecs w b m :: prts w m (b.drop (m * (w * 4))) n
theorem uJ5 (w : Nat) : ∀ (n : Nat) (b : List Int), (vecs w b n).length = n
 | 0, _ => rfl
 | n + 1, b => by rw [vecs, List.length_cons, uJ5 w n]
theorem uFa {w m : Nat} : ∀ (n : Nat) (b : List Int), ∀ l ∈ prts w m b n, l.length = m
 | 0, _, l, h => by simp [prts] at h
 | n + 1, b, l, h => by
  rw [prts] at h
  rcases List.mem_cons.1 h with rfl | h
  ·exact uJ5 _ _ _
  ·exact uFa n _ l h
theorem uAx {b : List Int} {M K : Nat} (h : K < M) {v : List Int} : v ++ nums b (M - K) = (v ++ [s32 (ofB (b.take 4))]) ++ nums (b.drop 4) (M - (K + 1)) := by
 rw [show M - K = (M - (K + 1)) + 1 by omega, nums, List.append_assoc]; rfl
theorem uB7 {w : Nat} {b : List Int} {M K : Nat} (h : K < M) {v : List (List Int)} : v ++ vecs w b (M - K) = (v ++ [nums b w]) ++ vecs w (b.drop (w * 4)) (M - (K + 1)) := by
 rw [show M - K = (M - (K + 1)) + 1 by omega, vecs, List.append_assoc]; rfl
theorem uG0 {w m : Nat} {b : List Int} {M K : Nat} (h : K < M) {v : List (List (List Int))} : v ++ prts w m b (M - K) = (v ++ [vecs w b m]) ++ prts w m (b.drop (m * (w * 4))) (M - (K + 1)) := by
 rw [show M - K = (M - (K + 1)) + 1 by omega, prts, List.append_assoc]; rfl
theorem uAj {α : Type} {b : List α} {M K q : Nat} (h : K < M) : b.drop ((M - K) * q) = (b.drop q).drop ((M - (K + 1)) * q) := by
 rw [List.drop_drop, show (M - K) * q = q + (M - (K + 1)) * q by rw [show M - K = (M - (K + 1)) + 1 by omega, Nat.succ_mul]; omega]
theorem uAl {M K q L : Nat} (h : K < M) (hb : (M - K) * q ≤ L) : q ≤ L ∧ (M - (K + 1)) * q ≤ L - q := by
 rw [show M - K = (M - (K + 1)) + 1 by omega, Nat.succ_mul] at hb; omega
abbrev uKk := Int × Int × Int × Unit × Unit × Unit × Unit × (List Int) × Int × Int × Int × Int × Int × Int × Unit
abbrev uBx := uKk × (uA0 × uAi × uAi × Unit × Unit)
noncomputable def uJj : Tel uKk := .ji 1 (.ji 2 (.ji 3 (.cons 8 (.ptr 1) (.cons 10 (.ptr 0) (.cons 11 (.ptr 2) (.cons 12 (.nilS) (.cons 13 (.own Ei32 3) (.ji 39 (.ji 40 (.ji 42 (.ji 43 (.ji 47 (.ji 48 (.nil))))))))))))))
noncomputable abbrev uAd := Bk.row (.cons 0 (.nilS) (.nil))
noncomputable def uJl : BTel (uA0 × uAi × uAi × Unit × Unit) := .cons uAm (.cons uAd (.cons uAd (.cons (.spare) (.nil))))
abbrev uKj := Int × Int × Int × Unit × Unit × Unit × Unit × Unit × Int × Int × Int × Int × Int × Int × Unit
noncomputable def uGg : Tel uKj := .ji 1 (.ji 2 (.ji 3 (.cons 8 (.ptr 1) (.cons 10 (.ptr 0) (.cons 11 (.ptr 2) (.cons 12 (.nilS) (.cons 13 (.nilS) (.ji 39 (.ji 40 (.ji 42 (.ji 43 (.ji 47 (.ji 48 (.nil))))))))))))))
abbrev uCq := uA0 × uAi × uAi × Unit
noncomputable def uGi : BTel uCq := .cons uAm (.cons uAd (.cons uAd (.nil)))
noncomputable def uJi : uKj → uCq → uBx := fun (d, p, w, (), (), (), (), (), pn, pi, wn, wi, n, k, ()) ((b, e, ()), ((), ()), ((), ()), ()) => ((d, p, w, (), (), (), (), [], pn, pi, wn, wi, n, k, ()), (b, e, ()), ((), ()), ((), ()), (), ())
noncomputable def uEi : List (LForm uBx) := [⟨_, _, uJj, uJl, fun x y => (x, y)⟩, ⟨_, _, uGg, uGi, uJi⟩]
abbrev uEq := Int × Int × Int × Unit × Unit × Unit × Unit × (List Int) × Int × Int × Int × Int × Unit
abbrev uCc := uA0 × uAi × uAi × Unit × Unit
noncomputable def uBy (R0 : uBx → uEq → uCc → Prop) : List (Alt uBx) := [⟨.exit 5, uEq, uCc, .ji 1 (.ji 2 (.ji 3 (.cons 8 (.ptr 1) (.cons 10 (.ptr 0) (.cons 11 (.ptr 2) (.cons 12 (.nilS) (.cons 13 (.own Ei32 3) (.ji 39 (.ji 40 (.ji 42 (.ji 43 (.nil)))))))))))), .cons uAm (.cons uAd (.cons uAd (.cons (.spare) (.nil)))), R0⟩]
noncomputable abbrev uA1 := KL [(200, uTq)] []
theorem bri00Form (d p w : Int) (v : List Int) (pn pi wn wi n k : Int) (b : List Int) (e : Int) (N : uBx → Prop) (R0 : uBx → uEq → uCc → Prop) : ((runW PP uA1 100).code none 133 74 (loopBody PP 133 14) (mkT (uJj.av id (d, p, w, (), (), (), (), v, pn, pi, wn, wi, n, k, ()))) [] (stL true (uJl.obs id ((b, e, ()), ((), ()), ((), ()), (), ()))) (postL 3 uEi (uBy R0) ((d, p, w, (), (), (), (), v, pn, pi, wn, wi, n, k, ()), (b, e, ()), ((), ()), ((), ()), (), ()) N)) = ( ifp (!leInt n k) (∃ l, Wv Eu8 b l ∧ true = true ∧ uA8 (((), 4, ()), (l, e, ()), ()) ∧ (∀ c d_1, uB5 (((), 4, ()), (l, e, ()), ()) c d_1 → 1 ≤ 1 ∧ ifp (roomy (v.length.add 1) 4) (True ∧ ((∃ (l : List Int), (WkL (v.flatMap Ei32.f ++ [AV.int .i32 (wrapF .i32 c.1)]) (l.flatMap Ei32.f) ∧ v.length.add 1 = l.length ∧ 1 = 1) ∧ ∃ l_1, Wv Eu8 d_1.1.1 l_1 ∧ true = true ∧ N ((d, p, w, (), (), (), (), l, pn, pi, wn, wi, n, wrapF .i64 (k.add 1), ()), (l_1, d_1.1.2.1, ()), ((), ()), ((), ()), (), ())) ∨ False)) False) ∧ True) (True ∧ ∃ l, Ow Ei32 v l 1 ∧ ∃ l_1, Wv Eu8 b l_1 ∧ true = true ∧ R0 ((d, p, w, (), (), (), (), v, pn, pi, wn, wi, n, k, ()), (b, e, ()), ((), ()), ((), ()), (), ()) (d, p, w, (), (), (), (), l, pn, pi, wn, wi, ()) ((l_1, e, ()), ((), ()), ((), ()), (), ()))) := by kernel_rfl
theorem bri00Form0 (d p w pn pi wn wi n k : Int) (b : List Int) (e : Int) (N : uBx → Prop) (R0 : uBx → uEq → uCc → Prop) : ((runW PP uA1 100).code none 133 74 (loopBody PP 133 14) (mkT (uGg.av id (d, p, w, (), (), (), (), (), pn, pi, wn, wi, n, k, ()))) [] (stL true (uGi.obs id ((b, e, ()), ((), ()), ((), ()), ()))) (postL 3 uEi (uBy R0) (uJi (d, p, w, (), (), (), (), (), pn, pi, wn, wi, n, k, ()) ((b, e, ()), ((), ()), ((), ()), ())) N)) = ( ifp (!leInt n k) (∃ l, Wv Eu8 b l ∧ true = true ∧ uA8 (((), 4, ()), (l, e, ()), ()) ∧ (∀ c d_1, uB5 (((), 4, ()), (l, e, ()), ()) c d_1 → 1 ≤ 1 ∧ True ∧ ((∃ (l : List Int), (WkL [AV.int .i32 (wrapF .i32 c.1)] (l.flatMap Ei32.f) ∧ 1 = l.length ∧ 1 = 1) ∧ ∃ l_1, Wv Eu8 d_1.1.1 l_1 ∧ true = true ∧ N ((d, p, w, (), (), (), (), l, pn, pi, wn, wi, n, wrapF .i64 (k.add 1), ()), (l_1, d_1.1.2.1, ()), ((), ()), ((), ()), (), ())) ∨ False)) ∧ True) (True ∧ False)) := by kernel_rfl
def uDf : uBx → Prop := fun ((d, p, w, (), (), (), (), v, pn, pi, wn, wi, n, k, ()), (b, e, ()), ((), ()), ((), ()), (), ()) => ∃ K M : Nat, n = M ∧ k = K ∧ K ≤ M ∧ M ≤ 1024 ∧ e = 0 ∧ (M - K) * 4 ≤ b.length ∧ b.length ≤ 16777216 ∧ uAe b ∧ v.length ≤ K ∧ (K < M ∨ v ≠ [])
def uJk : uBx → Nat := fun ((d, p, w, (), (), (), (), v, pn, pi, wn, wi, n, k, ()), (b, e, ()), ((), ()), ((), ()), (), ()) => n.toNat - k.toNat
def uGh : uBx → uEq → uCc → Prop := fun ((d, p, w, (), (), (), (), v, pn, pi, wn, wi, n, k, ()), (b, e, ()), ((), ()), ((), ()), (), ()) (d2, p2, w2, _, _, _, _, v2, pn2, pi2, wn2, wi2, _) ((b2, e2, _), _, _) => d2 = d ∧ p2 = p ∧ w2 = w ∧ pn2 = pn ∧ pi2 = pi ∧ wn2 = wn ∧ wi2 = wi ∧ v2 = v ++ nums b (n.toNat - k.toNat) ∧ b2 = b.drop ((n.toNat - k.toNat) * 4) ∧ e2 = 0
noncomputable def uRc : LoopC := loopC 3 uEi (uBy uGh) uDf
theorem bri00Step : stepsOk PP uA1 100 133 74 (loopBody PP 133 14) 3 true uEi (uBy uGh) uDf uJk ⟨_, _, uJj, uJl, fun x y => (x, y)⟩ := by
 intro x y hz
 obtain ⟨d, p, w, _, _, _, _, v, pn, pi, wn, wi, n, k, _⟩ := x
 obtain ⟨⟨b, e, _⟩, ⟨_, _⟩, ⟨_, _⟩, _, _⟩ := y
 refine (bri00Form d p w v pn pi wn wi n k b e _ _).mpr ?_
 obtain ⟨K, M, rfl, rfl, hKM, hM, rfl, hb4, hb, hx, hvl, hv0⟩ := hz
 rw [ifp_lt]
 split
 ·rename_i h
  have hK : K < M := by omega
  obtain ⟨s1, s2⟩ := uAl hK hb4
  refine ⟨b, Wk.refl _, (by trivial), ⟨rfl, rfl, by omega, hb, hx⟩, fun c1 d1 hr => ?_, trivial⟩
  obtain ⟨x0, _⟩ := c1
  obtain ⟨⟨b2, e2, _⟩, _⟩ := d1
  obtain ⟨hx0, hb2, he2⟩ := hr
  obtain rfl : b2 = b.drop 4 := hb2
  obtain rfl : e2 = 0 := he2
  have hr2 := uAo (ofB (b.take 4))
  have ex : wrapF .i32 x0 = s32 (ofB (b.take 4)) := by rw [show x0 = _ from hx0]; exact w32 hr2.1 hr2.2
  dsimp only
  rw [ex]
  refine ⟨Nat.le_refl _, ?_⟩
  rw [ifp_pos (roomy_small (by show v.length + 1 ≤ _; omega) (by decide))]
  refine ⟨trivial, Or.inl ⟨v ++ [s32 (ofB (b.take 4))], ⟨wkl_snoc (E := Ei32) ⟨Wk.refl _, trivial⟩, len_snoc, (by trivial)⟩, b.drop 4, Wk.refl _, (by trivial), ?_⟩⟩
  rw [wsucc (by omega)]
  refine ⟨⟨K + 1, M, rfl, rfl, hK, hM, rfl, by rw [List.length_drop]; exact s2, by rw [List.length_drop]; omega, fun y hy => hx y (List.mem_of_mem_drop hy), by simp; omega, Or.inr (by simp)⟩, by show M - (K + 1) < M - K; omega, fun cc dd hh => ?_, trivial⟩
  obtain ⟨d2, p2, w2, _, _, _, _, v2, pn2, pi2, wn2, wi2, _⟩ := cc
  obtain ⟨⟨b3, e3, _⟩, _, _⟩ := dd
  obtain ⟨g1, g2, g3, g4, g5, g6, g7, gv, gb, ge⟩ := hh
  exact ⟨g1, g2, g3, g4, g5, g6, g7, (show v2 = (v ++ [s32 (ofB (b.take 4))]) ++ nums (b.drop 4) (M - (K + 1)) from gv).trans (uAx hK).symm, (show b3 = (b.drop 4).drop ((M - (K + 1)) * 4) from gb).trans (uAj hK).symm, ge⟩
 ·rename_i h
  obtain rfl : K = M := by omega
  exact ⟨trivial, v, ⟨WkL.refl _, (by trivial), (by trivial)⟩, b, Wk.refl _, (by trivial), rfl, rfl, rfl, rfl, rfl, rfl, rfl, by show v = v ++ nums b (K - K); rw [Nat.sub_self, nums, List.append_nil], by show b = b.drop ((K - K) * 4); rw [Nat.sub_self, Nat.zero_mul, List.drop_zero], rfl⟩
theorem bri00Step0 : stepsOk PP uA1 100 133 74 (loopBody PP 133 14) 3 true uEi (uBy uGh) uDf uJk ⟨_, _, uGg, uGi, uJi⟩ := by
 intro x y hz
 obtain ⟨d, p, w, _, _, _, _, _, pn, pi, wn, wi, n, k, _⟩ := x
 obtain ⟨⟨b, e, _⟩, ⟨_, _⟩, ⟨_, _⟩, _⟩ := y
 refine (bri00Form0 d p w pn pi wn wi n k b e _ _).mpr ?_
 obtain ⟨K, M, rfl, rfl, hKM, hM, rfl, hb4, hb, hx, hvl, hv0⟩ := hz
 rw [ifp_lt]
 split
 ·rename_i h
  have hK : K < M := by omega
  obtain ⟨s1, s2⟩ := uAl hK hb4
  refine ⟨b, Wk.refl _, (by trivial), ⟨rfl, rfl, by omega, hb, hx⟩, fun c1 d1 hr => ?_, trivial⟩
  obtain ⟨x0, _⟩ := c1
  obtain ⟨⟨b2, e2, _⟩, _⟩ := d1
  obtain ⟨hx0, hb2, he2⟩ := hr
  obtain rfl : b2 = b.drop 4 := hb2
  obtain rfl : e2 = 0 := he2
  have hr2 := uAo (ofB (b.take 4))
  have ex : wrapF .i32 x0 = s32 (ofB (b.take 4)) := by rw [show x0 = _ from hx0]; exact w32 hr2.1 hr2.2
  dsimp only
  rw [ex]
  refine ⟨Nat.le_refl _, ?_⟩
  refine ⟨trivial, Or.inl ⟨[s32 (ofB (b.take 4))], ⟨wkl_one (E := Ei32) ⟨Wk.refl _, trivial⟩, (by trivial), (by trivial)⟩, b.drop 4, Wk.refl _, (by trivial), ?_⟩⟩
  rw [wsucc (by omega)]
  refine ⟨⟨K + 1, M, rfl, rfl, hK, hM, rfl, by rw [List.length_drop]; exact s2, by rw [List.length_drop]; omega, fun y hy => hx y (List.mem_of_mem_drop hy), by show 1 ≤ K + 1; omega, Or.inr (by simp)⟩, by show M - (K + 1) < M - K; omega, fun cc dd hh => ?_, trivial⟩
  obtain ⟨d2, p2, w2, _, _, _, _, v2, pn2, pi2, wn2, wi2, _⟩ := cc
  obtain ⟨⟨b3, e3, _⟩, _, _⟩ := dd
  obtain ⟨g1, g2, g3, g4, g5, g6, g7, gv, gb, ge⟩ := hh
  exact ⟨g1, g2, g3, g4, g5, g6, g7, (show v2 = ([s32 (ofB (b.take 4))]) ++ nums (b.drop 4) (M - (K + 1)) from gv).trans (uAx (v := []) hK).symm, (show b3 = (b.drop 4).drop ((M - (K + 1)) * 4) from gb).trans (uAj hK).symm, ge⟩
 ·rename_i h
  obtain rfl : K = M := by omega
  exact absurd rfl (hv0.resolve_left (by omega))
theorem bri00Ok : LoopOk PP 133 74 (.loop (loopBody PP 133 14)) (uRc) := loop_ok uJk  mixed (KL_ok (cc_cons uKy (cc_nil))) rfl (steps_cons bri00Step (steps_cons bri00Step0 (steps_nil)))
abbrev uKm := Int × Int × Int × Unit × Unit × Unit × (List (List Int)) × (List Int) × Int × Int × Int × Int × Int × Int × Unit
abbrev uBv := uKm × (uA0 × uAi × uAi × Unit × Unit × Unit)
noncomputable def uJf : Tel uKm := .ji 1 (.ji 2 (.ji 3 (.cons 8 (.ptr 1) (.cons 10 (.ptr 0) (.cons 11 (.ptr 2) (.cons 12 (.own Ell 3) (.cons 13 (.own Ei32 4) (.ji 39 (.ji 40 (.ji 42 (.ji 43 (.ji 47 (.ji 48 (.nil))))))))))))))
noncomputable def uJh : BTel (uA0 × uAi × uAi × Unit × Unit × Unit) := .cons uAm (.cons uAd (.cons uAd (.cons (.spare) (.cons (.spare) (.nil)))))
abbrev uKl := Int × Int × Int × Unit × Unit × Unit × (List (List Int)) × Unit × Int × Int × Int × Int × Int × Int × Unit
noncomputable def uGd : Tel uKl := .ji 1 (.ji 2 (.ji 3 (.cons 8 (.ptr 1) (.cons 10 (.ptr 0) (.cons 11 (.ptr 2) (.cons 12 (.own Ell 3) (.cons 13 (.nilS) (.ji 39 (.ji 40 (.ji 42 (.ji 43 (.ji 47 (.ji 48 (.nil))))))))))))))
noncomputable def uGf : BTel uCc := .cons uAm (.cons uAd (.cons uAd (.cons (.spare) (.nil))))
noncomputable def uJe : uKl → uCc → uBv := fun (d, p, w, (), (), (), l, (), pn, pi, wn, wi, n, k, ()) ((b, e, ()), ((), ()), ((), ()), (), ()) => ((d, p, w, (), (), (), l, [], pn, pi, wn, wi, n, k, ()), (b, e, ()), ((), ()), ((), ()), (), (), ())
noncomputable def uEh : List (LForm uBv) := [⟨_, _, uJf, uJh, fun x y => (x, y)⟩, ⟨_, _, uGd, uGf, uJe⟩]
abbrev uEp := Int × Int × Int × Unit × Unit × Unit × (List (List Int)) × (List Int) × Int × Int × Int × Int × Unit
abbrev uMc := uA0 × uAi × uAi × Unit × Unit × Unit
noncomputable def uBw (R0 : uBv → uEp → uMc → Prop) : List (Alt uBv) := [⟨.exit 5, uEp, uMc, .ji 1 (.ji 2 (.ji 3 (.cons 8 (.ptr 1) (.cons 10 (.ptr 0) (.cons 11 (.ptr 2) (.cons 12 (.own Ell 3) (.cons 13 (.own Ei32 4) (.ji 39 (.ji 40 (.ji 42 (.ji 43 (.nil)))))))))))), .cons uAm (.cons uAd (.cons uAd (.cons (.spare) (.cons (.spare) (.nil))))), R0⟩]
theorem bri01Form (d p w : Int) (l : List (List Int)) (v : List Int) (pn pi wn wi n k : Int) (b : List Int) (e : Int) (N : uBv → Prop) (R0 : uBv → uEp → uMc → Prop) : ((runW PP uA1 100).code none 133 74 (loopBody PP 133 14) (mkT (uJf.av id (d, p, w, (), (), (), l, v, pn, pi, wn, wi, n, k, ()))) [] (stL true (uJh.obs id ((b, e, ()), ((), ()), ((), ()), (), (), ()))) (postL 3 uEh (uBw R0) ((d, p, w, (), (), (), l, v, pn, pi, wn, wi, n, k, ()), (b, e, ()), ((), ()), ((), ()), (), (), ()) N)) = ( ifp (!leInt n k) (∃ l_1, Wv Eu8 b l_1 ∧ true = true ∧ uA8 (((), 4, ()), (l_1, e, ()), ()) ∧ (∀ c d_1, uB5 (((), 4, ()), (l_1, e, ()), ()) c d_1 → 1 ≤ 1 ∧ ifp (roomy (v.length.add 1) 4) (True ∧ ((∃ l_2, Ow Ell l l_2 1 ∧ ∃ (l : List Int), (WkL (v.flatMap Ei32.f ++ [AV.int .i32 (wrapF .i32 c.1)]) (l.flatMap Ei32.f) ∧ v.length.add 1 = l.length ∧ 1 = 1) ∧ ∃ l_3, Wv Eu8 d_1.1.1 l_3 ∧ true = true ∧ N ((d, p, w, (), (), (), l_2, l, pn, pi, wn, wi, n, wrapF .i64 (k.add 1), ()), (l_3, d_1.1.2.1, ()), ((), ()), ((), ()), (), (), ())) ∨ ∃ l_2, Ow Ell l l_2 1 ∧ False)) False) ∧ True) (True ∧ ∃ l_1, Ow Ell l l_1 1 ∧ ∃ l_2, Ow Ei32 v l_2 1 ∧ ∃ l_3, Wv Eu8 b l_3 ∧ true = true ∧ R0 ((d, p, w, (), (), (), l, v, pn, pi, wn, wi, n, k, ()), (b, e, ()), ((), ()), ((), ()), (), (), ()) (d, p, w, (), (), (), l_1, l_2, pn, pi, wn, wi, ()) ((l_3, e, ()), ((), ()), ((), ()), (), (), ()))) := by kernel_rfl
theorem bri01Form0 (d p w : Int) (l : List (List Int)) (pn pi wn wi n k : Int) (b : List Int) (e : Int) (N : uBv → Prop) (R0 : uBv → uEp → uMc → Prop) : ((runW PP uA1 100).code none 133 74 (loopBody PP 133 14) (mkT (uGd.av id (d, p, w, (), (), (), l, (), pn, pi, wn, wi, n, k, ()))) [] (stL true (uGf.obs id ((b, e, ()), ((), ()), ((), ()), (), ()))) (postL 3 uEh (uBw R0) (uJe (d, p, w, (), (), (), l, (), pn, pi, wn, wi, n, k, ()) ((b, e, ()), ((), ()), ((), ()), (), ())) N)) = ( ifp (!leInt n k) (∃ l_1, Wv Eu8 b l_1 ∧ true = true ∧ uA8 (((), 4, ()), (l_1, e, ()), ()) ∧ (∀ c d_1, uB5 (((), 4, ()), (l_1, e, ()), ()) c d_1 → 1 ≤ 1 ∧ True ∧ ((∃ l_2, Ow Ell l l_2 1 ∧ ∃ (l : List Int), (WkL [AV.int .i32 (wrapF .i32 c.1)] (l.flatMap Ei32.f) ∧ 1 = l.length ∧ 1 = 1) ∧ ∃ l_3, Wv Eu8 d_1.1.1 l_3 ∧ true = true ∧ N ((d, p, w, (), (), (), l_2, l, pn, pi, wn, wi, n, wrapF .i64 (k.add 1), ()), (l_3, d_1.1.2.1, ()), ((), ()), ((), ()), (), (), ())) ∨ ∃ l_2, Ow Ell l l_2 1 ∧ False)) ∧ True) (True ∧ ∃ l_1, Ow Ell l l_1 1 ∧ False)) := by kernel_rfl
def uDe : uBv → Prop := fun ((d, p, w, (), (), (), l, v, pn, pi, wn, wi, n, k, ()), (b, e, ()), ((), ()), ((), ()), (), (), ()) => ∃ K M : Nat, n = M ∧ k = K ∧ K ≤ M ∧ M ≤ 1024 ∧ e = 0 ∧ (M - K) * 4 ≤ b.length ∧ b.length ≤ 16777216 ∧ uAe b ∧ v.length ≤ K ∧ (K < M ∨ v ≠ [])
def uJg : uBv → Nat := fun ((d, p, w, (), (), (), l, v, pn, pi, wn, wi, n, k, ()), (b, e, ()), ((), ()), ((), ()), (), (), ()) => n.toNat - k.toNat
def uGe : uBv → uEp → uMc → Prop := fun ((d, p, w, (), (), (), l, v, pn, pi, wn, wi, n, k, ()), (b, e, ()), ((), ()), ((), ()), (), (), ()) (d2, p2, w2, _, _, _, l2, v2, pn2, pi2, wn2, wi2, _) ((b2, e2, _), _, _) => d2 = d ∧ p2 = p ∧ w2 = w ∧ pn2 = pn ∧ pi2 = pi ∧ wn2 = wn ∧ wi2 = wi ∧ l2 = l ∧ v2 = v ++ nums b (n.toNat - k.toNat) ∧ b2 = b.drop ((n.toNat - k.toNat) * 4) ∧ e2 = 0
noncomputable def uRb : LoopC := loopC 3 uEh (uBw uGe) uDe
theorem bri01Step : stepsOk PP uA1 100 133 74 (loopBody PP 133 14) 3 true uEh (uBw uGe) uDe uJg ⟨_, _, uJf, uJh, fun x y => (x, y)⟩ := by
 intro x y hz
 obtain ⟨d, p, w, _, _, _, l, v, pn, pi, wn, wi, n, k, _⟩ := x
 obtain ⟨⟨b, e, _⟩, ⟨_, _⟩, ⟨_, _⟩, _, _, _⟩ := y
 refine (bri01Form d p w l v pn pi wn wi n k b e _ _).mpr ?_
 obtain ⟨K, M, rfl, rfl, hKM, hM, rfl, hb4, hb, hx, hvl, hv0⟩ := hz
 rw [ifp_lt]
 split
 ·rename_i h
  have hK : K < M := by omega
  obtain ⟨s1, s2⟩ := uAl hK hb4
  refine ⟨b, Wk.refl _, (by trivial), ⟨rfl, rfl, by omega, hb, hx⟩, fun c1 d1 hr => ?_, trivial⟩
  obtain ⟨x0, _⟩ := c1
  obtain ⟨⟨b2, e2, _⟩, _⟩ := d1
  obtain ⟨hx0, hb2, he2⟩ := hr
  obtain rfl : b2 = b.drop 4 := hb2
  obtain rfl : e2 = 0 := he2
  have hr2 := uAo (ofB (b.take 4))
  have ex : wrapF .i32 x0 = s32 (ofB (b.take 4)) := by rw [show x0 = _ from hx0]; exact w32 hr2.1 hr2.2
  dsimp only
  rw [ex]
  refine ⟨Nat.le_refl _, ?_⟩
  rw [ifp_pos (roomy_small (by show v.length + 1 ≤ _; omega) (by decide))]
  refine ⟨trivial, Or.inl ⟨l, ⟨WkL.refl _, (by trivial), (by trivial)⟩, v ++ [s32 (ofB (b.take 4))], ⟨wkl_snoc (E := Ei32) ⟨Wk.refl _, trivial⟩, len_snoc, (by trivial)⟩, b.drop 4, Wk.refl _, (by trivial), ?_⟩⟩
  rw [wsucc (by omega)]
  refine ⟨⟨K + 1, M, rfl, rfl, hK, hM, rfl, by rw [List.length_drop]; exact s2, by rw [List.length_drop]; omega, fun y hy => hx y (List.mem_of_mem_drop hy), by simp; omega, Or.inr (by simp)⟩, by show M - (K + 1) < M - K; omega, fun cc dd hh => ?_, trivial⟩
  obtain ⟨d2, p2, w2, _, _, _, l2, v2, pn2, pi2, wn2, wi2, _⟩ := cc
  obtain ⟨⟨b3, e3, _⟩, _, _⟩ := dd
  obtain ⟨g1, g2, g3, g4, g5, g6, g7, gl, gv, gb, ge⟩ := hh
  exact ⟨g1, g2, g3, g4, g5, g6, g7, gl, (show v2 = (v ++ [s32 (ofB (b.take 4))]) ++ nums (b.drop 4) (M - (K + 1)) from gv).trans (uAx hK).symm, (show b3 = (b.drop 4).drop ((M - (K + 1)) * 4) from gb).trans (uAj hK).symm, ge⟩
 ·rename_i h
  obtain rfl : K = M := by omega
  exact ⟨trivial, l, ⟨WkL.refl _, (by trivial), (by trivial)⟩, v, ⟨WkL.refl _, (by trivial), (by trivial)⟩, b, Wk.refl _, (by trivial), rfl, rfl, rfl, rfl, rfl, rfl, rfl, rfl, by show v = v ++ nums b (K - K); rw [Nat.sub_self, nums, List.append_nil], by show b = b.drop ((K - K) * 4); rw [Nat.sub_self, Nat.zero_mul, List.drop_zero], rfl⟩
theorem bri01Step0 : stepsOk PP uA1 100 133 74 (loopBody PP 133 14) 3 true uEh (uBw uGe) uDe uJg ⟨_, _, uGd, uGf, uJe⟩ := by
 intro x y hz
 obtain ⟨d, p, w, _, _, _, l, _, pn, pi, wn, wi, n, k, _⟩ := x
 obtain ⟨⟨b, e, _⟩, ⟨_, _⟩, ⟨_, _⟩, _, _⟩ := y
 refine (bri01Form0 d p w l pn pi wn wi n k b e _ _).mpr ?_
 obtain ⟨K, M, rfl, rfl, hKM, hM, rfl, hb4, hb, hx, hvl, hv0⟩ := hz
 rw [ifp_lt]
 split
 ·rename_i h
  have hK : K < M := by omega
  obtain ⟨s1, s2⟩ := uAl hK hb4
  refine ⟨b, Wk.refl _, (by trivial), ⟨rfl, rfl, by omega, hb, hx⟩, fun c1 d1 hr => ?_, trivial⟩
  obtain ⟨x0, _⟩ := c1
  obtain ⟨⟨b2, e2, _⟩, _⟩ := d1
  obtain ⟨hx0, hb2, he2⟩ := hr
  obtain rfl : b2 = b.drop 4 := hb2
  obtain rfl : e2 = 0 := he2
  have hr2 := uAo (ofB (b.take 4))
  have ex : wrapF .i32 x0 = s32 (ofB (b.take 4)) := by rw [show x0 = _ from hx0]; exact w32 hr2.1 hr2.2
  dsimp only
  rw [ex]
  refine ⟨Nat.le_refl _, ?_⟩
  refine ⟨trivial, Or.inl ⟨l, ⟨WkL.refl _, (by trivial), (by trivial)⟩, [s32 (ofB (b.take 4))], ⟨wkl_one (E := Ei32) ⟨Wk.refl _, trivial⟩, (by trivial), (by trivial)⟩, b.drop 4, Wk.refl _, (by trivial), ?_⟩⟩
  rw [wsucc (by omega)]
  refine ⟨⟨K + 1, M, rfl, rfl, hK, hM, rfl, by rw [List.length_drop]; exact s2, by rw [List.length_drop]; omega, fun y hy => hx y (List.mem_of_mem_drop hy), by show 1 ≤ K + 1; omega, Or.inr (by simp)⟩, by show M - (K + 1) < M - K; omega, fun cc dd hh => ?_, trivial⟩
  obtain ⟨d2, p2, w2, _, _, _, l2, v2, pn2, pi2, wn2, wi2, _⟩ := cc
  obtain ⟨⟨b3, e3, _⟩, _, _⟩ := dd
  obtain ⟨g1, g2, g3, g4, g5, g6, g7, gl, gv, gb, ge⟩ := hh
  exact ⟨g1, g2, g3, g4, g5, g6, g7, gl, (show v2 = ([s32 (ofB (b.take 4))]) ++ nums (b.drop 4) (M - (K + 1)) from gv).trans (uAx (v := []) hK).symm, (show b3 = (b.drop 4).drop ((M - (K + 1)) * 4) from gb).trans (uAj hK).symm, ge⟩
 ·rename_i h
  obtain rfl : K = M := by omega
  exact absurd rfl (hv0.resolve_left (by omega))
theorem bri01Ok : LoopOk PP 133 74 (.loop (loopBody PP 133 14)) (uRb) := loop_ok uJg  mixed (KL_ok (cc_cons uKy (cc_nil))) rfl (steps_cons bri01Step (steps_cons bri01Step0 (steps_nil)))
abbrev uCw := (List (List (List Int))) × Unit
abbrev uBt := uKk × (uA0 × uAi × uCw × Unit × Unit × Unit)
noncomputable def uJb : Tel uKk := .ji 1 (.ji 2 (.ji 3 (.cons 8 (.ptr 1) (.cons 10 (.ptr 0) (.cons 11 (.ptr 2) (.cons 12 (.nilS) (.cons 13 (.own Ei32 4) (.ji 39 (.ji 40 (.ji 42 (.ji 43 (.ji 47 (.ji 48 (.nil))))))))))))))
noncomputable abbrev uBi := Bk.row (.cons 0 (.own Ecs 3) (.nil))
noncomputable def uJd : BTel (uA0 × uAi × uCw × Unit × Unit × Unit) := .cons uAm (.cons uAd (.cons uBi (.cons (.spare) (.cons (.spare) (.nil)))))
noncomputable def uGa : Tel uKj := .ji 1 (.ji 2 (.ji 3 (.cons 8 (.ptr 1) (.cons 10 (.ptr 0) (.cons 11 (.ptr 2) (.cons 12 (.nilS) (.cons 13 (.nilS) (.ji 39 (.ji 40 (.ji 42 (.ji 43 (.ji 47 (.ji 48 (.nil))))))))))))))
abbrev uEs := uA0 × uAi × uCw × Unit × Unit
noncomputable def uGc : BTel uEs := .cons uAm (.cons uAd (.cons uBi (.cons (.spare) (.nil))))
noncomputable def uJa : uKj → uEs → uBt := fun (d, p, w, (), (), (), (), (), pn, pi, wn, wi, n, k, ()) ((b, e, ()), ((), ()), (W, ()), (), ()) => ((d, p, w, (), (), (), (), [], pn, pi, wn, wi, n, k, ()), (b, e, ()), ((), ()), (W, ()), (), (), ())
noncomputable def uEg : List (LForm uBt) := [⟨_, _, uJb, uJd, fun x y => (x, y)⟩, ⟨_, _, uGa, uGc, uJa⟩]
abbrev uCb := uA0 × uAi × uCw × Unit × Unit × Unit
noncomputable def uBu (R0 : uBt → uEq → uCb → Prop) : List (Alt uBt) := [⟨.exit 5, uEq, uCb, .ji 1 (.ji 2 (.ji 3 (.cons 8 (.ptr 1) (.cons 10 (.ptr 0) (.cons 11 (.ptr 2) (.cons 12 (.nilS) (.cons 13 (.own Ei32 4) (.ji 39 (.ji 40 (.ji 42 (.ji 43 (.nil)))))))))))), .cons uAm (.cons uAd (.cons uBi (.cons (.spare) (.cons (.spare) (.nil))))), R0⟩]
theorem bri10Form (d p w : Int) (v : List Int) (pn pi wn wi n k : Int) (b : List Int) (e : Int) (W : List (List (List Int))) (N : uBt → Prop) (R0 : uBt → uEq → uCb → Prop) : ((runW PP uA1 100).code none 133 74 (loopBody PP 133 14) (mkT (uJb.av id (d, p, w, (), (), (), (), v, pn, pi, wn, wi, n, k, ()))) [] (stL true (uJd.obs id ((b, e, ()), ((), ()), (W, ()), (), (), ()))) (postL 3 uEg (uBu R0) ((d, p, w, (), (), (), (), v, pn, pi, wn, wi, n, k, ()), (b, e, ()), ((), ()), (W, ()), (), (), ()) N)) = ( ifp (!leInt n k) (∃ l, Wv Eu8 b l ∧ true = true ∧ uA8 (((), 4, ()), (l, e, ()), ()) ∧ (∀ c d_1, uB5 (((), 4, ()), (l, e, ()), ()) c d_1 → 1 ≤ 1 ∧ ifp (roomy (v.length.add 1) 4) (True ∧ ((∃ (l : List Int), (WkL (v.flatMap Ei32.f ++ [AV.int .i32 (wrapF .i32 c.1)]) (l.flatMap Ei32.f) ∧ v.length.add 1 = l.length ∧ 1 = 1) ∧ ∃ l_1, Wv Eu8 d_1.1.1 l_1 ∧ ∃ l_2, Ow Ecs W l_2 1 ∧ true = true ∧ N ((d, p, w, (), (), (), (), l, pn, pi, wn, wi, n, wrapF .i64 (k.add 1), ()), (l_1, d_1.1.2.1, ()), ((), ()), (l_2, ()), (), (), ())) ∨ False)) False) ∧ True) (True ∧ ∃ l, Ow Ei32 v l 1 ∧ ∃ l_1, Wv Eu8 b l_1 ∧ ∃ l_2, Ow Ecs W l_2 1 ∧ true = true ∧ R0 ((d, p, w, (), (), (), (), v, pn, pi, wn, wi, n, k, ()), (b, e, ()), ((), ()), (W, ()), (), (), ()) (d, p, w, (), (), (), (), l, pn, pi, wn, wi, ()) ((l_1, e, ()), ((), ()), (l_2, ()), (), (), ()))) := by kernel_rfl
theorem bri10Form0 (d p w pn pi wn wi n k : Int) (b : List Int) (e : Int) (W : List (List (List Int))) (N : uBt → Prop) (R0 : uBt → uEq → uCb → Prop) : ((runW PP uA1 100).code none 133 74 (loopBody PP 133 14) (mkT (uGa.av id (d, p, w, (), (), (), (), (), pn, pi, wn, wi, n, k, ()))) [] (stL true (uGc.obs id ((b, e, ()), ((), ()), (W, ()), (), ()))) (postL 3 uEg (uBu R0) (uJa (d, p, w, (), (), (), (), (), pn, pi, wn, wi, n, k, ()) ((b, e, ()), ((), ()), (W, ()), (), ())) N)) = ( ifp (!leInt n k) (∃ l, Wv Eu8 b l ∧ true = true ∧ uA8 (((), 4, ()), (l, e, ()), ()) ∧ (∀ c d_1, uB5 (((), 4, ()), (l, e, ()), ()) c d_1 → 1 ≤ 1 ∧ True ∧ ((∃ (l : List Int), (WkL [AV.int .i32 (wrapF .i32 c.1)] (l.flatMap Ei32.f) ∧ 1 = l.length ∧ 1 = 1) ∧ ∃ l_1, Wv Eu8 d_1.1.1 l_1 ∧ ∃ l_2, Ow Ecs W l_2 1 ∧ true = true ∧ N ((d, p, w, (), (), (), (), l, pn, pi, wn, wi, n, wrapF .i64 (k.add 1), ()), (l_1, d_1.1.2.1, ()), ((), ()), (l_2, ()), (), (), ())) ∨ False)) ∧ True) (True ∧ False)) := by kernel_rfl
def uDd : uBt → Prop := fun ((d, p, w, (), (), (), (), v, pn, pi, wn, wi, n, k, ()), (b, e, ()), ((), ()), (W, ()), (), (), ()) => ∃ K M : Nat, n = M ∧ k = K ∧ K ≤ M ∧ M ≤ 1024 ∧ e = 0 ∧ (M - K) * 4 ≤ b.length ∧ b.length ≤ 16777216 ∧ uAe b ∧ v.length ≤ K ∧ (K < M ∨ v ≠ [])
def uJc : uBt → Nat := fun ((d, p, w, (), (), (), (), v, pn, pi, wn, wi, n, k, ()), (b, e, ()), ((), ()), (W, ()), (), (), ()) => n.toNat - k.toNat
def uGb : uBt → uEq → uCb → Prop := fun ((d, p, w, (), (), (), (), v, pn, pi, wn, wi, n, k, ()), (b, e, ()), ((), ()), (W, ()), (), (), ()) (d2, p2, w2, _, _, _, _, v2, pn2, pi2, wn2, wi2, _) ((b2, e2, _), _, (W2, _), _) => d2 = d ∧ p2 = p ∧ w2 = w ∧ pn2 = pn ∧ pi2 = pi ∧ wn2 = wn ∧ wi2 = wi ∧ W2 = W ∧ v2 = v ++ nums b (n.toNat - k.toNat) ∧ b2 = b.drop ((n.toNat - k.toNat) * 4) ∧ e2 = 0
noncomputable def uRa : LoopC := loopC 3 uEg (uBu uGb) uDd
theorem bri10Step : stepsOk PP uA1 100 133 74 (loopBody PP 133 14) 3 true uEg (uBu uGb) uDd uJc ⟨_, _, uJb, uJd, fun x y => (x, y)⟩ := by
 intro x y hz
 obtain ⟨d, p, w, _, _, _, _, v, pn, pi, wn, wi, n, k, _⟩ := x
 obtain ⟨⟨b, e, _⟩, ⟨_, _⟩, ⟨W, _⟩, _, _, _⟩ := y
 refine (bri10Form d p w v pn pi wn wi n k b e W _ _).mpr ?_
 obtain ⟨K, M, rfl, rfl, hKM, hM, rfl, hb4, hb, hx, hvl, hv0⟩ := hz
 rw [ifp_lt]
 split
 ·rename_i h
  have hK : K < M := by omega
  obtain ⟨s1, s2⟩ := uAl hK hb4
  refine ⟨b, Wk.refl _, (by trivial), ⟨rfl, rfl, by omega, hb, hx⟩, fun c1 d1 hr => ?_, trivial⟩
  obtain ⟨x0, _⟩ := c1
  obtain ⟨⟨b2, e2, _⟩, _⟩ := d1
  obtain ⟨hx0, hb2, he2⟩ := hr
  obtain rfl : b2 = b.drop 4 := hb2
  obtain rfl : e2 = 0 := he2
  have hr2 := uAo (ofB (b.take 4))
  have ex : wrapF .i32 x0 = s32 (ofB (b.take 4)) := by rw [show x0 = _ from hx0]; exact w32 hr2.1 hr2.2
  dsimp only
  rw [ex]
  refine ⟨Nat.le_refl _, ?_⟩
  rw [ifp_pos (roomy_small (by show v.length + 1 ≤ _; omega) (by decide))]
  refine ⟨trivial, Or.inl ⟨v ++ [s32 (ofB (b.take 4))], ⟨wkl_snoc (E := Ei32) ⟨Wk.refl _, trivial⟩, len_snoc, (by trivial)⟩, b.drop 4, Wk.refl _, W, ⟨WkL.refl _, (by trivial), (by trivial)⟩, (by trivial), ?_⟩⟩
  rw [wsucc (by omega)]
  refine ⟨⟨K + 1, M, rfl, rfl, hK, hM, rfl, by rw [List.length_drop]; exact s2, by rw [List.length_drop]; omega, fun y hy => hx y (List.mem_of_mem_drop hy), by simp; omega, Or.inr (by simp)⟩, by show M - (K + 1) < M - K; omega, fun cc dd hh => ?_, trivial⟩
  obtain ⟨d2, p2, w2, _, _, _, _, v2, pn2, pi2, wn2, wi2, _⟩ := cc
  obtain ⟨⟨b3, e3, _⟩, _, ⟨W2, _⟩, _⟩ := dd
  obtain ⟨g1, g2, g3, g4, g5, g6, g7, gW, gv, gb, ge⟩ := hh
  exact ⟨g1, g2, g3, g4, g5, g6, g7, gW, (show v2 = (v ++ [s32 (ofB (b.take 4))]) ++ nums (b.drop 4) (M - (K + 1)) from gv).trans (uAx hK).symm, (show b3 = (b.drop 4).drop ((M - (K + 1)) * 4) from gb).trans (uAj hK).symm, ge⟩
 ·rename_i h
  obtain rfl : K = M := by omega
  exact ⟨trivial, v, ⟨WkL.refl _, (by trivial), (by trivial)⟩, b, Wk.refl _, W, ⟨WkL.refl _, (by trivial), (by trivial)⟩, (by trivial), rfl, rfl, rfl, rfl, rfl, rfl, rfl, rfl, by show v = v ++ nums b (K - K); rw [Nat.sub_self, nums, List.append_nil], by show b = b.drop ((K - K) * 4); rw [Nat.sub_self, Nat.zero_mul, List.drop_zero], rfl⟩
theorem bri10Step0 : stepsOk PP uA1 100 133 74 (loopBody PP 133 14) 3 true uEg (uBu uGb) uDd uJc ⟨_, _, uGa, uGc, uJa⟩ := by
 intro x y hz
 obtain ⟨d, p, w, _, _, _, _, _, pn, pi, wn, wi, n, k, _⟩ := x
 obtain ⟨⟨b, e, _⟩, ⟨_, _⟩, ⟨W, _⟩, _, _⟩ := y
 refine (bri10Form0 d p w pn pi wn wi n k b e W _ _).mpr ?_
 obtain ⟨K, M, rfl, rfl, hKM, hM, rfl, hb4, hb, hx, hvl, hv0⟩ := hz
 rw [ifp_lt]
 split
 ·rename_i h
  have hK : K < M := by omega
  obtain ⟨s1, s2⟩ := uAl hK hb4
  refine ⟨b, Wk.refl _, (by trivial), ⟨rfl, rfl, by omega, hb, hx⟩, fun c1 d1 hr => ?_, trivial⟩
  obtain ⟨x0, _⟩ := c1
  obtain ⟨⟨b2, e2, _⟩, _⟩ := d1
  obtain ⟨hx0, hb2, he2⟩ := hr
  obtain rfl : b2 = b.drop 4 := hb2
  obtain rfl : e2 = 0 := he2
  have hr2 := uAo (ofB (b.take 4))
  have ex : wrapF .i32 x0 = s32 (ofB (b.take 4)) := by rw [show x0 = _ from hx0]; exact w32 hr2.1 hr2.2
  dsimp only
  rw [ex]
  refine ⟨Nat.le_refl _, ?_⟩
  refine ⟨trivial, Or.inl ⟨[s32 (ofB (b.take 4))], ⟨wkl_one (E := Ei32) ⟨Wk.refl _, trivial⟩, (by trivial), (by trivial)⟩, b.drop 4, Wk.refl _, W, ⟨WkL.refl _, (by trivial), (by trivial)⟩, (by trivial), ?_⟩⟩
  rw [wsucc (by omega)]
  refine ⟨⟨K + 1, M, rfl, rfl, hK, hM, rfl, by rw [List.length_drop]; exact s2, by rw [List.length_drop]; omega, fun y hy => hx y (List.mem_of_mem_drop hy), by show 1 ≤ K + 1; omega, Or.inr (by simp)⟩, by show M - (K + 1) < M - K; omega, fun cc dd hh => ?_, trivial⟩
  obtain ⟨d2, p2, w2, _, _, _, _, v2, pn2, pi2, wn2, wi2, _⟩ := cc
  obtain ⟨⟨b3, e3, _⟩, _, ⟨W2, _⟩, _⟩ := dd
  obtain ⟨g1, g2, g3, g4, g5, g6, g7, gW, gv, gb, ge⟩ := hh
  exact ⟨g1, g2, g3, g4, g5, g6, g7, gW, (show v2 = ([s32 (ofB (b.take 4))]) ++ nums (b.drop 4) (M - (K + 1)) from gv).trans (uAx (v := []) hK).symm, (show b3 = (b.drop 4).drop ((M - (K + 1)) * 4) from gb).trans (uAj hK).symm, ge⟩
 ·rename_i h
  obtain rfl : K = M := by omega
  exact absurd rfl (hv0.resolve_left (by omega))
theorem bri10Ok : LoopOk PP 133 74 (.loop (loopBody PP 133 14)) (uRa) := loop_ok uJc  mixed (KL_ok (cc_cons uKy (cc_nil))) rfl (steps_cons bri10Step (steps_cons bri10Step0 (steps_nil)))
abbrev uBr := uKm × (uA0 × uAi × uCw × Unit × Unit × Unit × Unit)
noncomputable def uI7 : Tel uKm := .ji 1 (.ji 2 (.ji 3 (.cons 8 (.ptr 1) (.cons 10 (.ptr 0) (.cons 11 (.ptr 2) (.cons 12 (.own Ell 4) (.cons 13 (.own Ei32 5) (.ji 39 (.ji 40 (.ji 42 (.ji 43 (.ji 47 (.ji 48 (.nil))))))))))))))
noncomputable def uI9 : BTel (uA0 × uAi × uCw × Unit × Unit × Unit × Unit) := .cons uAm (.cons uAd (.cons uBi (.cons (.spare) (.cons (.spare) (.cons (.spare) (.nil))))))
noncomputable def uF7 : Tel uKl := .ji 1 (.ji 2 (.ji 3 (.cons 8 (.ptr 1) (.cons 10 (.ptr 0) (.cons 11 (.ptr 2) (.cons 12 (.own Ell 4) (.cons 13 (.nilS) (.ji 39 (.ji 40 (.ji 42 (.ji 43 (.ji 47 (.ji 48 (.nil))))))))))))))
noncomputable def uF9 : BTel uCb := .cons uAm (.cons uAd (.cons uBi (.cons (.spare) (.cons (.spare) (.nil)))))
noncomputable def uI6 : uKl → uCb → uBr := fun (d, p, w, (), (), (), l, (), pn, pi, wn, wi, n, k, ()) ((b, e, ()), ((), ()), (W, ()), (), (), ()) => ((d, p, w, (), (), (), l, [], pn, pi, wn, wi, n, k, ()), (b, e, ()), ((), ()), (W, ()), (), (), (), ())
noncomputable def uEf : List (LForm uBr) := [⟨_, _, uI7, uI9, fun x y => (x, y)⟩, ⟨_, _, uF7, uF9, uI6⟩]
abbrev uMb := uA0 × uAi × uCw × Unit × Unit × Unit × Unit
noncomputable def uBs (R0 : uBr → uEp → uMb → Prop) : List (Alt uBr) := [⟨.exit 5, uEp, uMb, .ji 1 (.ji 2 (.ji 3 (.cons 8 (.ptr 1) (.cons 10 (.ptr 0) (.cons 11 (.ptr 2) (.cons 12 (.own Ell 4) (.cons 13 (.own Ei32 5) (.ji 39 (.ji 40 (.ji 42 (.ji 43 (.nil)))))))))))), .cons uAm (.cons uAd (.cons uBi (.cons (.spare) (.cons (.spare) (.cons (.spare) (.nil)))))), R0⟩]
theorem bri11Form (d p w : Int) (l : List (List Int)) (v : List Int) (pn pi wn wi n k : Int) (b : List Int) (e : Int) (W : List (List (List Int))) (N : uBr → Prop) (R0 : uBr → uEp → uMb → Prop) : ((runW PP uA1 100).code none 133 74 (loopBody PP 133 14) (mkT (uI7.av id (d, p, w, (), (), (), l, v, pn, pi, wn, wi, n, k, ()))) [] (stL true (uI9.obs id ((b, e, ()), ((), ()), (W, ()), (), (), (), ()))) (postL 3 uEf (uBs R0) ((d, p, w, (), (), (), l, v, pn, pi, wn, wi, n, k, ()), (b, e, ()), ((), ()), (W, ()), (), (), (), ()) N)) = ( ifp (!leInt n k) (∃ l_1, Wv Eu8 b l_1 ∧ true = true ∧ uA8 (((), 4, ()), (l_1, e, ()), ()) ∧ (∀ c d_1, uB5 (((), 4, ()), (l_1, e, ()), ()) c d_1 → 1 ≤ 1 ∧ ifp (roomy (v.length.add 1) 4) (True ∧ ((∃ l_2, Ow Ell l l_2 1 ∧ ∃ (l : List Int), (WkL (v.flatMap Ei32.f ++ [AV.int .i32 (wrapF .i32 c.1)]) (l.flatMap Ei32.f) ∧ v.length.add 1 = l.length ∧ 1 = 1) ∧ ∃ l_3, Wv Eu8 d_1.1.1 l_3 ∧ ∃ l_4, Ow Ecs W l_4 1 ∧ true = true ∧ N ((d, p, w, (), (), (), l_2, l, pn, pi, wn, wi, n, wrapF .i64 (k.add 1), ()), (l_3, d_1.1.2.1, ()), ((), ()), (l_4, ()), (), (), (), ())) ∨ ∃ l_2, Ow Ell l l_2 1 ∧ False)) False) ∧ True) (True ∧ ∃ l_1, Ow Ell l l_1 1 ∧ ∃ l_2, Ow Ei32 v l_2 1 ∧ ∃ l_3, Wv Eu8 b l_3 ∧ ∃ l_4, Ow Ecs W l_4 1 ∧ true = true ∧ R0 ((d, p, w, (), (), (), l, v, pn, pi, wn, wi, n, k, ()), (b, e, ()), ((), ()), (W, ()), (), (), (), ()) (d, p, w, (), (), (), l_1, l_2, pn, pi, wn, wi, ()) ((l_3, e, ()), ((), ()), (l_4, ()), (), (), (), ()))) := by kernel_rfl
theorem bri11Form0 (d p w : Int) (l : List (List Int)) (pn pi wn wi n k : Int) (b : List Int) (e : Int) (W : List (List (List Int))) (N : uBr → Prop) (R0 : uBr → uEp → uMb → Prop) : ((runW PP uA1 100).code none 133 74 (loopBody PP 133 14) (mkT (uF7.av id (d, p, w, (), (), (), l, (), pn, pi, wn, wi, n, k, ()))) [] (stL true (uF9.obs id ((b, e, ()), ((), ()), (W, ()), (), (), ()))) (postL 3 uEf (uBs R0) (uI6 (d, p, w, (), (), (), l, (), pn, pi, wn, wi, n, k, ()) ((b, e, ()), ((), ()), (W, ()), (), (), ())) N)) = ( ifp (!leInt n k) (∃ l_1, Wv Eu8 b l_1 ∧ true = true ∧ uA8 (((), 4, ()), (l_1, e, ()), ()) ∧ (∀ c d_1, uB5 (((), 4, ()), (l_1, e, ()), ()) c d_1 → 1 ≤ 1 ∧ True ∧ ((∃ l_2, Ow Ell l l_2 1 ∧ ∃ (l : List Int), (WkL [AV.int .i32 (wrapF .i32 c.1)] (l.flatMap Ei32.f) ∧ 1 = l.length ∧ 1 = 1) ∧ ∃ l_3, Wv Eu8 d_1.1.1 l_3 ∧ ∃ l_4, Ow Ecs W l_4 1 ∧ true = true ∧ N ((d, p, w, (), (), (), l_2, l, pn, pi, wn, wi, n, wrapF .i64 (k.add 1), ()), (l_3, d_1.1.2.1, ()), ((), ()), (l_4, ()), (), (), (), ())) ∨ ∃ l_2, Ow Ell l l_2 1 ∧ False)) ∧ True) (True ∧ ∃ l_1, Ow Ell l l_1 1 ∧ False)) := by kernel_rfl
def uDc : uBr → Prop := fun ((d, p, w, (), (), (), l, v, pn, pi, wn, wi, n, k, ()), (b, e, ()), ((), ()), (W, ()), (), (), (), ()) => ∃ K M : Nat, n = M ∧ k = K ∧ K ≤ M ∧ M ≤ 1024 ∧ e = 0 ∧ (M - K) * 4 ≤ b.length ∧ b.length ≤ 16777216 ∧ uAe b ∧ v.length ≤ K ∧ (K < M ∨ v ≠ [])
def uI8 : uBr → Nat := fun ((d, p, w, (), (), (), l, v, pn, pi, wn, wi, n, k, ()), (b, e, ()), ((), ()), (W, ()), (), (), (), ()) => n.toNat - k.toNat
def uF8 : uBr → uEp → uMb → Prop := fun ((d, p, w, (), (), (), l, v, pn, pi, wn, wi, n, k, ()), (b, e, ()), ((), ()), (W, ()), (), (), (), ()) (d2, p2, w2, _, _, _, l2, v2, pn2, pi2, wn2, wi2, _) ((b2, e2, _), _, (W2, _), _) => d2 = d ∧ p2 = p ∧ w2 = w ∧ pn2 = pn ∧ pi2 = pi ∧ wn2 = wn ∧ wi2 = wi ∧ l2 = l ∧ W2 = W ∧ v2 = v ++ nums b (n.toNat - k.toNat) ∧ b2 = b.drop ((n.toNat - k.toNat) * 4) ∧ e2 = 0
noncomputable def uQ9 : LoopC := loopC 3 uEf (uBs uF8) uDc
theorem bri11Step : stepsOk PP uA1 100 133 74 (loopBody PP 133 14) 3 true uEf (uBs uF8) uDc uI8 ⟨_, _, uI7, uI9, fun x y => (x, y)⟩ := by
 intro x y hz
 obtain ⟨d, p, w, _, _, _, l, v, pn, pi, wn, wi, n, k, _⟩ := x
 obtain ⟨⟨b, e, _⟩, ⟨_, _⟩, ⟨W, _⟩, _, _, _, _⟩ := y
 refine (bri11Form d p w l v pn pi wn wi n k b e W _ _).mpr ?_
 obtain ⟨K, M, rfl, rfl, hKM, hM, rfl, hb4, hb, hx, hvl, hv0⟩ := hz
 rw [ifp_lt]
 split
 ·rename_i h
  have hK : K < M := by omega
  obtain ⟨s1, s2⟩ := uAl hK hb4
  refine ⟨b, Wk.refl _, (by trivial), ⟨rfl, rfl, by omega, hb, hx⟩, fun c1 d1 hr => ?_, trivial⟩
  obtain ⟨x0, _⟩ := c1
  obtain ⟨⟨b2, e2, _⟩, _⟩ := d1
  obtain ⟨hx0, hb2, he2⟩ := hr
  obtain rfl : b2 = b.drop 4 := hb2
  obtain rfl : e2 = 0 := he2
  have hr2 := uAo (ofB (b.take 4))
  have ex : wrapF .i32 x0 = s32 (ofB (b.take 4)) := by rw [show x0 = _ from hx0]; exact w32 hr2.1 hr2.2
  dsimp only
  rw [ex]
  refine ⟨Nat.le_refl _, ?_⟩
  rw [ifp_pos (roomy_small (by show v.length + 1 ≤ _; omega) (by decide))]
  refine ⟨trivial, Or.inl ⟨l, ⟨WkL.refl _, (by trivial), (by trivial)⟩, v ++ [s32 (ofB (b.take 4))], ⟨wkl_snoc (E := Ei32) ⟨Wk.refl _, trivial⟩, len_snoc, (by trivial)⟩, b.drop 4, Wk.refl _, W, ⟨WkL.refl _, (by trivial), (by trivial)⟩, (by trivial), ?_⟩⟩
  rw [wsucc (by omega)]
  refine ⟨⟨K + 1, M, rfl, rfl, hK, hM, rfl, by rw [List.length_drop]; exact s2, by rw [List.length_drop]; omega, fun y hy => hx y (List.mem_of_mem_drop hy), by simp; omega, Or.inr (by simp)⟩, by show M - (K + 1) < M - K; omega, fun cc dd hh => ?_, trivial⟩
  obtain ⟨d2, p2, w2, _, _, _, l2, v2, pn2, pi2, wn2, wi2, _⟩ := cc
  obtain ⟨⟨b3, e3, _⟩, _, ⟨W2, _⟩, _⟩ := dd
  obtain ⟨g1, g2, g3, g4, g5, g6, g7, gl, gW, gv, gb, ge⟩ := hh
  exact ⟨g1, g2, g3, g4, g5, g6, g7, gl, gW, (show v2 = (v ++ [s32 (ofB (b.take 4))]) ++ nums (b.drop 4) (M - (K + 1)) from gv).trans (uAx hK).symm, (show b3 = (b.drop 4).drop ((M - (K + 1)) * 4) from gb).trans (uAj hK).symm, ge⟩
 ·rename_i h
  obtain rfl : K = M := by omega
  exact ⟨trivial, l, ⟨WkL.refl _, (by trivial), (by trivial)⟩, v, ⟨WkL.refl _, (by trivial), (by trivial)⟩, b, Wk.refl _, W, ⟨WkL.refl _, (by trivial), (by trivial)⟩, (by trivial), rfl, rfl, rfl, rfl, rfl, rfl, rfl, rfl, rfl, by show v = v ++ nums b (K - K); rw [Nat.sub_self, nums, List.append_nil], by show b = b.drop ((K - K) * 4); rw [Nat.sub_self, Nat.zero_mul, List.drop_zero], rfl⟩
theorem bri11Step0 : stepsOk PP uA1 100 133 74 (loopBody PP 133 14) 3 true uEf (uBs uF8) uDc uI8 ⟨_, _, uF7, uF9, uI6⟩ := by
 intro x y hz
 obtain ⟨d, p, w, _, _, _, l, _, pn, pi, wn, wi, n, k, _⟩ := x
 obtain ⟨⟨b, e, _⟩, ⟨_, _⟩, ⟨W, _⟩, _, _, _⟩ := y
 refine (bri11Form0 d p w l pn pi wn wi n k b e W _ _).mpr ?_
 obtain ⟨K, M, rfl, rfl, hKM, hM, rfl, hb4, hb, hx, hvl, hv0⟩ := hz
 rw [ifp_lt]
 split
 ·rename_i h
  have hK : K < M := by omega
  obtain ⟨s1, s2⟩ := uAl hK hb4
  refine ⟨b, Wk.refl _, (by trivial), ⟨rfl, rfl, by omega, hb, hx⟩, fun c1 d1 hr => ?_, trivial⟩
  obtain ⟨x0, _⟩ := c1
  obtain ⟨⟨b2, e2, _⟩, _⟩ := d1
  obtain ⟨hx0, hb2, he2⟩ := hr
  obtain rfl : b2 = b.drop 4 := hb2
  obtain rfl : e2 = 0 := he2
  have hr2 := uAo (ofB (b.take 4))
  have ex : wrapF .i32 x0 = s32 (ofB (b.take 4)) := by rw [show x0 = _ from hx0]; exact w32 hr2.1 hr2.2
  dsimp only
  rw [ex]
  refine ⟨Nat.le_refl _, ?_⟩
  refine ⟨trivial, Or.inl ⟨l, ⟨WkL.refl _, (by trivial), (by trivial)⟩, [s32 (ofB (b.take 4))], ⟨wkl_one (E := Ei32) ⟨Wk.refl _, trivial⟩, (by trivial), (by trivial)⟩, b.drop 4, Wk.refl _, W, ⟨WkL.refl _, (by trivial), (by trivial)⟩, (by trivial), ?_⟩⟩
  rw [wsucc (by omega)]
  refine ⟨⟨K + 1, M, rfl, rfl, hK, hM, rfl, by rw [List.length_drop]; exact s2, by rw [List.length_drop]; omega, fun y hy => hx y (List.mem_of_mem_drop hy), by show 1 ≤ K + 1; omega, Or.inr (by simp)⟩, by show M - (K + 1) < M - K; omega, fun cc dd hh => ?_, trivial⟩
  obtain ⟨d2, p2, w2, _, _, _, l2, v2, pn2, pi2, wn2, wi2, _⟩ := cc
  obtain ⟨⟨b3, e3, _⟩, _, ⟨W2, _⟩, _⟩ := dd
  obtain ⟨g1, g2, g3, g4, g5, g6, g7, gl, gW, gv, gb, ge⟩ := hh
  exact ⟨g1, g2, g3, g4, g5, g6, g7, gl, gW, (show v2 = ([s32 (ofB (b.take 4))]) ++ nums (b.drop 4) (M - (K + 1)) from gv).trans (uAx (v := []) hK).symm, (show b3 = (b.drop 4).drop ((M - (K + 1)) * 4) from gb).trans (uAj hK).symm, ge⟩
 ·rename_i h
  obtain rfl : K = M := by omega
  exact absurd rfl (hv0.resolve_left (by omega))
theorem bri11Ok : LoopOk PP 133 74 (.loop (loopBody PP 133 14)) (uQ9) := loop_ok uI8  mixed (KL_ok (cc_cons uKy (cc_nil))) rfl (steps_cons bri11Step (steps_cons bri11Step0 (steps_nil)))
noncomputable def briC : LoopC := orL uRc (orL uRb (orL uRa uQ9))
theorem uQb : LoopOk PP 133 74 (.loop (loopBody PP 133 14)) briC := orL_ok bri00Ok (orL_ok bri01Ok (orL_ok bri10Ok bri11Ok))
abbrev uKi := Int × Int × Int × Unit × Unit × Unit × (List (List Int)) × Int × Int × Int × Int × Unit
abbrev uEe := uKi × uCc
noncomputable def uO7 : Tel uKi := .ji 1 (.ji 2 (.ji 3 (.cons 8 (.ptr 1) (.cons 10 (.ptr 0) (.cons 11 (.ptr 2) (.cons 12 (.own Ell 3) (.ji 39 (.ji 40 (.ji 42 (.ji 43 (.nil)))))))))))
noncomputable def uO9 : BTel uCc := .cons uAm (.cons uAd (.cons uAd (.cons (.spare) (.nil))))
abbrev uKh := Int × Int × Int × Unit × Unit × Unit × Unit × Int × Int × Int × Int × Unit
noncomputable def uI4 : Tel uKh := .ji 1 (.ji 2 (.ji 3 (.cons 8 (.ptr 1) (.cons 10 (.ptr 0) (.cons 11 (.ptr 2) (.cons 12 (.nilS) (.ji 39 (.ji 40 (.ji 42 (.ji 43 (.nil)))))))))))
noncomputable def uI5 : BTel uCq := .cons uAm (.cons uAd (.cons uAd (.nil)))
noncomputable def uO6 : uKh → uCq → uEe := fun (d, p, w, (), (), (), (), pn, pi, wn, wi, ()) ((b, e, ()), ((), ()), ((), ()), ()) => ((d, p, w, (), (), (), [], pn, pi, wn, wi, ()), (b, e, ()), ((), ()), ((), ()), (), ())
noncomputable def uHb : List (LForm uEe) := [⟨_, _, uO7, uO9, fun x y => (x, y)⟩, ⟨_, _, uI4, uI5, uO6⟩]
abbrev uEo := Int × Int × Int × Unit × Unit × Unit × (List (List Int)) × Int × Int × Unit
noncomputable def uCl (R0 : uEe → uEo → uCc → Prop) : List (Alt uEe) := [⟨.exit 3, uEo, uCc, .ji 1 (.ji 2 (.ji 3 (.cons 8 (.ptr 1) (.cons 10 (.ptr 0) (.cons 11 (.ptr 2) (.cons 12 (.own Ell 3) (.ji 39 (.ji 40 (.nil))))))))), .cons uAm (.cons uAd (.cons uAd (.cons (.spare) (.nil)))), R0⟩]
noncomputable abbrev uCx := KL [] [(133, [(14, briC)])]
theorem brm0Form (d p w : Int) (l : List (List Int)) (pn pi wn wi : Int) (b : List Int) (e : Int) (N : uEe → Prop) (R0 : uEe → uEo → uCc → Prop) : ((runW PP uCx 100).code none 133 74 (loopBody PP 133 11) (mkT (uO7.av id (d, p, w, (), (), (), l, pn, pi, wn, wi, ()))) [] (stL true (uO9.obs id ((b, e, ()), ((), ()), ((), ()), (), ()))) (postL 3 uHb (uCl R0) ((d, p, w, (), (), (), l, pn, pi, wn, wi, ()), (b, e, ()), ((), ()), ((), ()), (), ()) N)) = ( ifp (!leInt wn wi) (p ≠ 0 ∧ LoopOk PP 133 74 (loopBody PP 133 14).loop briC ∧ (True ∧ True ∧ (False ∨ False) ∨ True ∧ True ∧ ((∃ l_1, Ow Ell l l_1 1 ∧ False) ∨ ∃ l_1, Ow Ell l l_1 1 ∧ ∃ l, Wv Eu8 b l ∧ true = true ∧ uDe ((d, p, w, (), (), (), l_1, [], pn, pi, wn, wi, wrapF .i64 (d.tdiv p), 0, ()), (l, e, ()), ((), ()), ((), ()), (), (), ()) ∧ (∀ c d_1, uGe ((d, p, w, (), (), (), l_1, [], pn, pi, wn, wi, wrapF .i64 (d.tdiv p), 0, ()), (l, e, ()), ((), ()), ((), ()), (), (), ()) c d_1 → 1 ≤ 1 ∧ ifp (roomy (c.2.2.2.2.2.2.1.length.add 1) 24) (True ∧ ((∃ (l : List (List Int)), (WkL (List.flatMap Ell.f c.2.2.2.2.2.2.1 ++ [AV.vs (List.flatMap Ei32.f c.2.2.2.2.2.2.2.1) c.2.2.2.2.2.2.2.1.length c.2.2.2.2.2.2.2.1.length false (some 5) 1]) (l.flatMap Ell.f) ∧ c.2.2.2.2.2.2.1.length.add 1 = l.length ∧ 1 = 1) ∧ ∃ l_2, Wv Eu8 d_1.1.1 l_2 ∧ true = true ∧ N ((c.1, c.2.1, c.2.2.1, (), (), (), l, c.2.2.2.2.2.2.2.2.1, c.2.2.2.2.2.2.2.2.2.1, c.2.2.2.2.2.2.2.2.2.2.1, wrapF .i64 (c.2.2.2.2.2.2.2.2.2.2.2.1.add 1), ()), (l_2, d_1.1.2.1, ()), ((), ()), ((), ()), (), ())) ∨ False)) False) ∧ True) ∨ True ∧ True ∧ (False ∨ False) ∨ True ∧ True ∧ ((∃ l_1, Ow Ell l l_1 1 ∧ False) ∨ ∃ l_1, Ow Ell l l_1 1 ∧ ∃ l, Wv Eu8 b l ∧ False))) (True ∧ ∃ l_1, Ow Ell l l_1 1 ∧ ∃ l_2, Wv Eu8 b l_2 ∧ true = true ∧ R0 ((d, p, w, (), (), (), l, pn, pi, wn, wi, ()), (b, e, ()), ((), ()), ((), ()), (), ()) (d, p, w, (), (), (), l_1, pn, pi, ()) ((l_2, e, ()), ((), ()), ((), ()), (), ()))) := by kernel_rfl
theorem brm0Form0 (d p w pn pi wn wi : Int) (b : List Int) (e : Int) (N : uEe → Prop) (R0 : uEe → uEo → uCc → Prop) : ((runW PP uCx 100).code none 133 74 (loopBody PP 133 11) (mkT (uI4.av id (d, p, w, (), (), (), (), pn, pi, wn, wi, ()))) [] (stL true (uI5.obs id ((b, e, ()), ((), ()), ((), ()), ()))) (postL 3 uHb (uCl R0) (uO6 (d, p, w, (), (), (), (), pn, pi, wn, wi, ()) ((b, e, ()), ((), ()), ((), ()), ())) N)) = ( ifp (!leInt wn wi) (p ≠ 0 ∧ LoopOk PP 133 74 (loopBody PP 133 14).loop briC ∧ (True ∧ True ∧ (False ∨ ∃ l, Wv Eu8 b l ∧ true = true ∧ uDf ((d, p, w, (), (), (), (), [], pn, pi, wn, wi, wrapF .i64 (d.tdiv p), 0, ()), (l, e, ()), ((), ()), ((), ()), (), ()) ∧ (∀ c d_1, uGh ((d, p, w, (), (), (), (), [], pn, pi, wn, wi, wrapF .i64 (d.tdiv p), 0, ()), (l, e, ()), ((), ()), ((), ()), (), ()) c d_1 → 1 ≤ 1 ∧ True ∧ ((∃ (l : List (List Int)), (WkL [AV.vs (List.flatMap Ei32.f c.2.2.2.2.2.2.2.1) c.2.2.2.2.2.2.2.1.length c.2.2.2.2.2.2.2.1.length false (some 3) 1] (l.flatMap Ell.f) ∧ 1 = l.length ∧ 1 = 1) ∧ ∃ l_1, Wv Eu8 d_1.1.1 l_1 ∧ true = true ∧ N ((c.1, c.2.1, c.2.2.1, (), (), (), l, c.2.2.2.2.2.2.2.2.1, c.2.2.2.2.2.2.2.2.2.1, c.2.2.2.2.2.2.2.2.2.2.1, wrapF .i64 (c.2.2.2.2.2.2.2.2.2.2.2.1.add 1), ()), (l_1, d_1.1.2.1, ()), ((), ()), ((), ()), (), ())) ∨ False)) ∧ True) ∨ True ∧ True ∧ (False ∨ False) ∨ True ∧ True ∧ (False ∨ ∃ l, Wv Eu8 b l ∧ False) ∨ True ∧ True ∧ (False ∨ False))) (True ∧ False)) := by kernel_rfl
def uF6 : uEe → Prop := fun ((d, p, w, (), (), (), l, pn, pi, wn, wi, ()), (b, e, ()), ((), ()), ((), ()), (), ()) => ∃ J M D P : Nat, wn = M ∧ wi = J ∧ J ≤ M ∧ M ≤ 256 ∧ d = D ∧ p = P ∧ 1 ≤ P ∧ D ≤ 1024 ∧ 1 ≤ D / P ∧ e = 0 ∧ (M - J) * (D / P * 4) ≤ b.length ∧ b.length ≤ 16777216 ∧ uAe b ∧ l.length ≤ J ∧ (J < M ∨ l ≠ [])
def uO8 : uEe → Nat := fun ((d, p, w, (), (), (), l, pn, pi, wn, wi, ()), (b, e, ()), ((), ()), ((), ()), (), ()) => wn.toNat - wi.toNat
def uLj : uEe → uEo → uCc → Prop := fun ((d, p, w, (), (), (), l, pn, pi, wn, wi, ()), (b, e, ()), ((), ()), ((), ()), (), ()) (d2, p2, w2, _, _, _, l2, pn2, pi2, _) ((b2, e2, _), _, _) => d2 = d ∧ p2 = p ∧ w2 = w ∧ pn2 = pn ∧ pi2 = pi ∧ l2 = l ++ vecs (Int.tdiv d p).toNat b (wn.toNat - wi.toNat) ∧ b2 = b.drop ((wn.toNat - wi.toNat) * ((Int.tdiv d p).toNat * 4)) ∧ e2 = 0
noncomputable def uT1 : LoopC := loopC 3 uHb (uCl uLj) uF6
theorem brm0Step : stepsOk PP uCx 100 133 74 (loopBody PP 133 11) 3 true uHb (uCl uLj) uF6 uO8 ⟨_, _, uO7, uO9, fun x y => (x, y)⟩ := by
 intro x y hz
 obtain ⟨d, p, w, _, _, _, l, pn, pi, wn, wi, _⟩ := x
 obtain ⟨⟨b, e, _⟩, ⟨_, _⟩, ⟨_, _⟩, _, _⟩ := y
 refine (brm0Form d p w l pn pi wn wi b e _ _).mpr ?_
 obtain ⟨J, M, D, P, rfl, rfl, hJM, hM, rfl, rfl, hP, hD, hW1, rfl, hb4, hb, hx, hll, hl0⟩ := hz
 have hWb : D / P ≤ D := Nat.div_le_self _ _
 rw [ifp_lt]
 split
 ·rename_i h
  have hJ : J < M := by omega
  obtain ⟨s1, s2⟩ := uAl hJ hb4
  have e1 : wrapF .i64 (Int.tdiv (D : Int) (P : Int)) = ((D / P : Nat) : Int) := by rw [show Int.tdiv (D : Int) (P : Int) = ((D / P : Nat) : Int) from rfl, w64 (by omega) (by omega)]
  rw [e1]
  refine ⟨by omega, uQb, Or.inr (Or.inl ⟨trivial, trivial, Or.inr ⟨l, ⟨WkL.refl _, (by trivial), (by trivial)⟩, b, Wk.refl _, (by trivial), ⟨0, D / P, rfl, rfl, Nat.zero_le _, by omega, rfl, s1, hb, hx, Nat.zero_le _, Or.inl (by omega)⟩, fun c1 d1 hr => ?_, trivial⟩⟩)⟩
  obtain ⟨d1', p1, w1, _, _, _, l1, v1, pn1, pi1, wn1, wi1, _⟩ := c1
  obtain ⟨⟨b1, f1, _⟩, _, _⟩ := d1
  obtain ⟨g1, g2, g3, g4, g5, g6, g7, gl, gv, gb, ge⟩ := hr
  obtain rfl : d1' = (D : Int) := g1
  obtain rfl : p1 = (P : Int) := g2
  obtain rfl : w = w1 := Eq.symm g3
  obtain rfl : pn = pn1 := Eq.symm g4
  obtain rfl : pi = pi1 := Eq.symm g5
  obtain rfl : wn1 = (M : Int) := g6
  obtain rfl : wi1 = (J : Int) := g7
  obtain rfl : l = l1 := Eq.symm gl
  obtain rfl : v1 = nums b (D / P) := gv
  obtain rfl : b1 = b.drop (D / P * 4) := gb
  obtain rfl : f1 = 0 := ge
  dsimp only
  refine ⟨Nat.le_refl _, ?_⟩
  rw [ifp_pos (roomy_small (by show l.length + 1 ≤ _; omega) (by decide))]
  refine ⟨trivial, Or.inl ⟨l ++ [nums b (D / P)], ⟨wkl_snoc (E := Ell) ⟨wk_of_own, trivial⟩, len_snoc, (by trivial)⟩, b.drop (D / P * 4), Wk.refl _, (by trivial), ?_⟩⟩
  rw [wsucc (by omega)]
  refine ⟨⟨J + 1, M, D, P, rfl, rfl, hJ, hM, rfl, rfl, hP, hD, hW1, rfl, by rw [List.length_drop]; exact s2, by rw [List.length_drop]; omega, fun y hy => hx y (List.mem_of_mem_drop hy), by simp; omega, Or.inr (by simp)⟩, by show M - (J + 1) < M - J; omega, fun cc dd hh => ?_, trivial⟩
  obtain ⟨d2, p2, w2, _, _, _, l2, pn2, pi2, _⟩ := cc
  obtain ⟨⟨b3, e3, _⟩, _, _⟩ := dd
  obtain ⟨g1, g2, g3, g4, g5, gv, gb, ge⟩ := hh
  exact ⟨g1, g2, g3, g4, g5, (show l2 = (l ++ [nums b (D / P)]) ++ vecs (D / P) (b.drop (D / P * 4)) (M - (J + 1)) from gv).trans (uB7 hJ).symm, (show b3 = (b.drop (D / P * 4)).drop ((M - (J + 1)) * (D / P * 4)) from gb).trans (uAj hJ).symm, ge⟩
 ·rename_i h
  obtain rfl : J = M := by omega
  exact ⟨trivial, l, ⟨WkL.refl _, (by trivial), (by trivial)⟩, b, Wk.refl _, (by trivial), rfl, rfl, rfl, rfl, rfl, by show l = l ++ vecs _ b (J - J); rw [Nat.sub_self, vecs, List.append_nil], by show b = b.drop ((J - J) * _); rw [Nat.sub_self, Nat.zero_mul, List.drop_zero], rfl⟩
theorem brm0Step0 : stepsOk PP uCx 100 133 74 (loopBody PP 133 11) 3 true uHb (uCl uLj) uF6 uO8 ⟨_, _, uI4, uI5, uO6⟩ := by
 intro x y hz
 obtain ⟨d, p, w, _, _, _, _, pn, pi, wn, wi, _⟩ := x
 obtain ⟨⟨b, e, _⟩, ⟨_, _⟩, ⟨_, _⟩, _⟩ := y
 refine (brm0Form0 d p w pn pi wn wi b e _ _).mpr ?_
 obtain ⟨J, M, D, P, rfl, rfl, hJM, hM, rfl, rfl, hP, hD, hW1, rfl, hb4, hb, hx, hll, hl0⟩ := hz
 have hWb : D / P ≤ D := Nat.div_le_self _ _
 rw [ifp_lt]
 split
 ·rename_i h
  have hJ : J < M := by omega
  obtain ⟨s1, s2⟩ := uAl hJ hb4
  have e1 : wrapF .i64 (Int.tdiv (D : Int) (P : Int)) = ((D / P : Nat) : Int) := by rw [show Int.tdiv (D : Int) (P : Int) = ((D / P : Nat) : Int) from rfl, w64 (by omega) (by omega)]
  rw [e1]
  refine ⟨by omega, uQb, Or.inl ⟨trivial, trivial, Or.inr ⟨b, Wk.refl _, (by trivial), ⟨0, D / P, rfl, rfl, Nat.zero_le _, by omega, rfl, s1, hb, hx, Nat.zero_le _, Or.inl (by omega)⟩, fun c1 d1 hr => ?_, trivial⟩⟩⟩
  obtain ⟨d1', p1, w1, _, _, _, _, v1, pn1, pi1, wn1, wi1, _⟩ := c1
  obtain ⟨⟨b1, f1, _⟩, _, _⟩ := d1
  obtain ⟨g1, g2, g3, g4, g5, g6, g7, gv, gb, ge⟩ := hr
  obtain rfl : d1' = (D : Int) := g1
  obtain rfl : p1 = (P : Int) := g2
  obtain rfl : w = w1 := Eq.symm g3
  obtain rfl : pn = pn1 := Eq.symm g4
  obtain rfl : pi = pi1 := Eq.symm g5
  obtain rfl : wn1 = (M : Int) := g6
  obtain rfl : wi1 = (J : Int) := g7
  obtain rfl : v1 = nums b (D / P) := gv
  obtain rfl : b1 = b.drop (D / P * 4) := gb
  obtain rfl : f1 = 0 := ge
  dsimp only
  refine ⟨Nat.le_refl _, ?_⟩
  refine ⟨trivial, Or.inl ⟨[nums b (D / P)], ⟨wkl_one (E := Ell) ⟨wk_of_own, trivial⟩, (by trivial), (by trivial)⟩, b.drop (D / P * 4), Wk.refl _, (by trivial), ?_⟩⟩
  rw [wsucc (by omega)]
  refine ⟨⟨J + 1, M, D, P, rfl, rfl, hJ, hM, rfl, rfl, hP, hD, hW1, rfl, by rw [List.length_drop]; exact s2, by rw [List.length_drop]; omega, fun y hy => hx y (List.mem_of_mem_drop hy), by show 1 ≤ J + 1; omega, Or.inr (by simp)⟩, by show M - (J + 1) < M - J; omega, fun cc dd hh => ?_, trivial⟩
  obtain ⟨d2, p2, w2, _, _, _, l2, pn2, pi2, _⟩ := cc
  obtain ⟨⟨b3, e3, _⟩, _, _⟩ := dd
  obtain ⟨g1, g2, g3, g4, g5, gv, gb, ge⟩ := hh
  exact ⟨g1, g2, g3, g4, g5, (show l2 = ([nums b (D / P)]) ++ vecs (D / P) (b.drop (D / P * 4)) (M - (J + 1)) from gv).trans (uB7 (v := []) hJ).symm, (show b3 = (b.drop (D / P * 4)).drop ((M - (J + 1)) * (D / P * 4)) from gb).trans (uAj hJ).symm, ge⟩
 ·rename_i h
  obtain rfl : J = M := by omega
  exact absurd rfl (hl0.resolve_left (by omega))
theorem brm0Ok : LoopOk PP 133 74 (.loop (loopBody PP 133 11)) (uT1) := loop_ok uO8  mixed (KL_ok (cc_nil)) rfl (steps_cons brm0Step (steps_cons brm0Step0 (steps_nil)))
abbrev uEd := uKi × uCb
noncomputable def uO3 : Tel uKi := .ji 1 (.ji 2 (.ji 3 (.cons 8 (.ptr 1) (.cons 10 (.ptr 0) (.cons 11 (.ptr 2) (.cons 12 (.own Ell 4) (.ji 39 (.ji 40 (.ji 42 (.ji 43 (.nil)))))))))))
noncomputable def uO5 : BTel uCb := .cons uAm (.cons uAd (.cons uBi (.cons (.spare) (.cons (.spare) (.nil)))))
noncomputable def uI2 : Tel uKh := .ji 1 (.ji 2 (.ji 3 (.cons 8 (.ptr 1) (.cons 10 (.ptr 0) (.cons 11 (.ptr 2) (.cons 12 (.nilS) (.ji 39 (.ji 40 (.ji 42 (.ji 43 (.nil)))))))))))
noncomputable def uI3 : BTel uEs := .cons uAm (.cons uAd (.cons uBi (.cons (.spare) (.nil))))
noncomputable def uO2 : uKh → uEs → uEd := fun (d, p, w, (), (), (), (), pn, pi, wn, wi, ()) ((b, e, ()), ((), ()), (W, ()), (), ()) => ((d, p, w, (), (), (), [], pn, pi, wn, wi, ()), (b, e, ()), ((), ()), (W, ()), (), (), ())
noncomputable def uHa : List (LForm uEd) := [⟨_, _, uO3, uO5, fun x y => (x, y)⟩, ⟨_, _, uI2, uI3, uO2⟩]
noncomputable def uCk (R0 : uEd → uEo → uCb → Prop) : List (Alt uEd) := [⟨.exit 3, uEo, uCb, .ji 1 (.ji 2 (.ji 3 (.cons 8 (.ptr 1) (.cons 10 (.ptr 0) (.cons 11 (.ptr 2) (.cons 12 (.own Ell 4) (.ji 39 (.ji 40 (.nil))))))))), .cons uAm (.cons uAd (.cons uBi (.cons (.spare) (.cons (.spare) (.nil))))), R0⟩]
theorem brm1Form (d p w : Int) (l : List (List Int)) (pn pi wn wi : Int) (b : List Int) (e : Int) (W : List (List (List Int))) (N : uEd → Prop) (R0 : uEd → uEo → uCb → Prop) : ((runW PP uCx 100).code none 133 74 (loopBody PP 133 11) (mkT (uO3.av id (d, p, w, (), (), (), l, pn, pi, wn, wi, ()))) [] (stL true (uO5.obs id ((b, e, ()), ((), ()), (W, ()), (), (), ()))) (postL 3 uHa (uCk R0) ((d, p, w, (), (), (), l, pn, pi, wn, wi, ()), (b, e, ()), ((), ()), (W, ()), (), (), ()) N)) = ( ifp (!leInt wn wi) (p ≠ 0 ∧ LoopOk PP 133 74 (loopBody PP 133 14).loop briC ∧ (True ∧ True ∧ (False ∨ False) ∨ True ∧ True ∧ ((∃ l_1, Ow Ell l l_1 1 ∧ False) ∨ ∃ l_1, Ow Ell l l_1 1 ∧ ∃ l, Wv Eu8 b l ∧ False) ∨ True ∧ True ∧ (False ∨ False) ∨ True ∧ True ∧ ((∃ l_1, Ow Ell l l_1 1 ∧ False) ∨ ∃ l_1, Ow Ell l l_1 1 ∧ ∃ l, Wv Eu8 b l ∧ ∃ l_2, Ow Ecs W l_2 1 ∧ true = true ∧ uDc ((d, p, w, (), (), (), l_1, [], pn, pi, wn, wi, wrapF .i64 (d.tdiv p), 0, ()), (l, e, ()), ((), ()), (l_2, ()), (), (), (), ()) ∧ (∀ c d_1, uF8 ((d, p, w, (), (), (), l_1, [], pn, pi, wn, wi, wrapF .i64 (d.tdiv p), 0, ()), (l, e, ()), ((), ()), (l_2, ()), (), (), (), ()) c d_1 → 1 ≤ 1 ∧ ifp (roomy (c.2.2.2.2.2.2.1.length.add 1) 24) (True ∧ ((∃ (l : List (List Int)), (WkL (List.flatMap Ell.f c.2.2.2.2.2.2.1 ++ [AV.vs (List.flatMap Ei32.f c.2.2.2.2.2.2.2.1) c.2.2.2.2.2.2.2.1.length c.2.2.2.2.2.2.2.1.length false (some 7) 1]) (l.flatMap Ell.f) ∧ c.2.2.2.2.2.2.1.length.add 1 = l.length ∧ 1 = 1) ∧ ∃ l_3, Wv Eu8 d_1.1.1 l_3 ∧ ∃ l_4, Ow Ecs d_1.2.2.1.1 l_4 1 ∧ true = true ∧ N ((c.1, c.2.1, c.2.2.1, (), (), (), l, c.2.2.2.2.2.2.2.2.1, c.2.2.2.2.2.2.2.2.2.1, c.2.2.2.2.2.2.2.2.2.2.1, wrapF .i64 (c.2.2.2.2.2.2.2.2.2.2.2.1.add 1), ()), (l_3, d_1.1.2.1, ()), ((), ()), (l_4, ()), (), (), ())) ∨ False)) False) ∧ True))) (True ∧ ∃ l_1, Ow Ell l l_1 1 ∧ ∃ l_2, Wv Eu8 b l_2 ∧ ∃ l_3, Ow Ecs W l_3 1 ∧ true = true ∧ R0 ((d, p, w, (), (), (), l, pn, pi, wn, wi, ()), (b, e, ()), ((), ()), (W, ()), (), (), ()) (d, p, w, (), (), (), l_1, pn, pi, ()) ((l_2, e, ()), ((), ()), (l_3, ()), (), (), ()))) := by kernel_rfl
theorem brm1Form0 (d p w pn pi wn wi : Int) (b : List Int) (e : Int) (W : List (List (List Int))) (N : uEd → Prop) (R0 : uEd → uEo → uCb → Prop) : ((runW PP uCx 100).code none 133 74 (loopBody PP 133 11) (mkT (uI2.av id (d, p, w, (), (), (), (), pn, pi, wn, wi, ()))) [] (stL true (uI3.obs id ((b, e, ()), ((), ()), (W, ()), (), ()))) (postL 3 uHa (uCk R0) (uO2 (d, p, w, (), (), (), (), pn, pi, wn, wi, ()) ((b, e, ()), ((), ()), (W, ()), (), ())) N)) = ( ifp (!leInt wn wi) (p ≠ 0 ∧ LoopOk PP 133 74 (loopBody PP 133 14).loop briC ∧ (True ∧ True ∧ (False ∨ ∃ l, Wv Eu8 b l ∧ False) ∨ True ∧ True ∧ (False ∨ False) ∨ True ∧ True ∧ (False ∨ ∃ l, Wv Eu8 b l ∧ ∃ l_1, Ow Ecs W l_1 1 ∧ true = true ∧ uDd ((d, p, w, (), (), (), (), [], pn, pi, wn, wi, wrapF .i64 (d.tdiv p), 0, ()), (l, e, ()), ((), ()), (l_1, ()), (), (), ()) ∧ (∀ c d_1, uGb ((d, p, w, (), (), (), (), [], pn, pi, wn, wi, wrapF .i64 (d.tdiv p), 0, ()), (l, e, ()), ((), ()), (l_1, ()), (), (), ()) c d_1 → 1 ≤ 1 ∧ True ∧ ((∃ (l : List (List Int)), (WkL [AV.vs (List.flatMap Ei32.f c.2.2.2.2.2.2.2.1) c.2.2.2.2.2.2.2.1.length c.2.2.2.2.2.2.2.1.length false (some 5) 1] (l.flatMap Ell.f) ∧ 1 = l.length ∧ 1 = 1) ∧ ∃ l_2, Wv Eu8 d_1.1.1 l_2 ∧ ∃ l_3, Ow Ecs d_1.2.2.1.1 l_3 1 ∧ true = true ∧ N ((c.1, c.2.1, c.2.2.1, (), (), (), l, c.2.2.2.2.2.2.2.2.1, c.2.2.2.2.2.2.2.2.2.1, c.2.2.2.2.2.2.2.2.2.2.1, wrapF .i64 (c.2.2.2.2.2.2.2.2.2.2.2.1.add 1), ()), (l_2, d_1.1.2.1, ()), ((), ()), (l_3, ()), (), (), ())) ∨ False)) ∧ True) ∨ True ∧ True ∧ (False ∨ False))) (True ∧ False)) := by kernel_rfl
def uF5 : uEd → Prop := fun ((d, p, w, (), (), (), l, pn, pi, wn, wi, ()), (b, e, ()), ((), ()), (W, ()), (), (), ()) => ∃ J M D P : Nat, wn = M ∧ wi = J ∧ J ≤ M ∧ M ≤ 256 ∧ d = D ∧ p = P ∧ 1 ≤ P ∧ D ≤ 1024 ∧ 1 ≤ D / P ∧ e = 0 ∧ (M - J) * (D / P * 4) ≤ b.length ∧ b.length ≤ 16777216 ∧ uAe b ∧ l.length ≤ J ∧ (J < M ∨ l ≠ [])
def uO4 : uEd → Nat := fun ((d, p, w, (), (), (), l, pn, pi, wn, wi, ()), (b, e, ()), ((), ()), (W, ()), (), (), ()) => wn.toNat - wi.toNat
def uLi : uEd → uEo → uCb → Prop := fun ((d, p, w, (), (), (), l, pn, pi, wn, wi, ()), (b, e, ()), ((), ()), (W, ()), (), (), ()) (d2, p2, w2, _, _, _, l2, pn2, pi2, _) ((b2, e2, _), _, (W2, _), _) => d2 = d ∧ p2 = p ∧ w2 = w ∧ pn2 = pn ∧ pi2 = pi ∧ W2 = W ∧ l2 = l ++ vecs (Int.tdiv d p).toNat b (wn.toNat - wi.toNat) ∧ b2 = b.drop ((wn.toNat - wi.toNat) * ((Int.tdiv d p).toNat * 4)) ∧ e2 = 0
noncomputable def uT0 : LoopC := loopC 3 uHa (uCk uLi) uF5
theorem brm1Step : stepsOk PP uCx 100 133 74 (loopBody PP 133 11) 3 true uHa (uCk uLi) uF5 uO4 ⟨_, _, uO3, uO5, fun x y => (x, y)⟩ := by
 intro x y hz
 obtain ⟨d, p, w, _, _, _, l, pn, pi, wn, wi, _⟩ := x
 obtain ⟨⟨b, e, _⟩, ⟨_, _⟩, ⟨W, _⟩, _, _, _⟩ := y
 refine (brm1Form d p w l pn pi wn wi b e W _ _).mpr ?_
 obtain ⟨J, M, D, P, rfl, rfl, hJM, hM, rfl, rfl, hP, hD, hW1, rfl, hb4, hb, hx, hll, hl0⟩ := hz
 have hWb : D / P ≤ D := Nat.div_le_self _ _
 rw [ifp_lt]
 split
 ·rename_i h
  have hJ : J < M := by omega
  obtain ⟨s1, s2⟩ := uAl hJ hb4
  have e1 : wrapF .i64 (Int.tdiv (D : Int) (P : Int)) = ((D / P : Nat) : Int) := by rw [show Int.tdiv (D : Int) (P : Int) = ((D / P : Nat) : Int) from rfl, w64 (by omega) (by omega)]
  rw [e1]
  refine ⟨by omega, uQb, Or.inr (Or.inr (Or.inr (⟨trivial, trivial, Or.inr ⟨l, ⟨WkL.refl _, (by trivial), (by trivial)⟩, b, Wk.refl _, W, ⟨WkL.refl _, (by trivial), (by trivial)⟩, (by trivial), ⟨0, D / P, rfl, rfl, Nat.zero_le _, by omega, rfl, s1, hb, hx, Nat.zero_le _, Or.inl (by omega)⟩, fun c1 d1 hr => ?_, trivial⟩⟩)))⟩
  obtain ⟨d1', p1, w1, _, _, _, l1, v1, pn1, pi1, wn1, wi1, _⟩ := c1
  obtain ⟨⟨b1, f1, _⟩, _, ⟨W1, _⟩, _⟩ := d1
  obtain ⟨g1, g2, g3, g4, g5, g6, g7, gl, gW, gv, gb, ge⟩ := hr
  obtain rfl : d1' = (D : Int) := g1
  obtain rfl : p1 = (P : Int) := g2
  obtain rfl : w = w1 := Eq.symm g3
  obtain rfl : pn = pn1 := Eq.symm g4
  obtain rfl : pi = pi1 := Eq.symm g5
  obtain rfl : wn1 = (M : Int) := g6
  obtain rfl : wi1 = (J : Int) := g7
  obtain rfl : l = l1 := Eq.symm gl
  obtain rfl : W = W1 := Eq.symm gW
  obtain rfl : v1 = nums b (D / P) := gv
  obtain rfl : b1 = b.drop (D / P * 4) := gb
  obtain rfl : f1 = 0 := ge
  dsimp only
  refine ⟨Nat.le_refl _, ?_⟩
  rw [ifp_pos (roomy_small (by show l.length + 1 ≤ _; omega) (by decide))]
  refine ⟨trivial, Or.inl ⟨l ++ [nums b (D / P)], ⟨wkl_snoc (E := Ell) ⟨wk_of_own, trivial⟩, len_snoc, (by trivial)⟩, b.drop (D / P * 4), Wk.refl _, W, ⟨WkL.refl _, (by trivial), (by trivial)⟩, (by trivial), ?_⟩⟩
  rw [wsucc (by omega)]
  refine ⟨⟨J + 1, M, D, P, rfl, rfl, hJ, hM, rfl, rfl, hP, hD, hW1, rfl, by rw [List.length_drop]; exact s2, by rw [List.length_drop]; omega, fun y hy => hx y (List.mem_of_mem_drop hy), by simp; omega, Or.inr (by simp)⟩, by show M - (J + 1) < M - J; omega, fun cc dd hh => ?_, trivial⟩
  obtain ⟨d2, p2, w2, _, _, _, l2, pn2, pi2, _⟩ := cc
  obtain ⟨⟨b3, e3, _⟩, _, ⟨W2, _⟩, _⟩ := dd
  obtain ⟨g1, g2, g3, g4, g5, gW, gv, gb, ge⟩ := hh
  exact ⟨g1, g2, g3, g4, g5, gW, (show l2 = (l ++ [nums b (D / P)]) ++ vecs (D / P) (b.drop (D / P * 4)) (M - (J + 1)) from gv).trans (uB7 hJ).symm, (show b3 = (b.drop (D / P * 4)).drop ((M - (J + 1)) * (D / P * 4)) from gb).trans (uAj hJ).symm, ge⟩
 ·rename_i h
  obtain rfl : J = M := by omega
  exact ⟨trivial, l, ⟨WkL.refl _, (by trivial), (by trivial)⟩, b, Wk.refl _, W, ⟨WkL.refl _, (by trivial), (by trivial)⟩, (by trivial), rfl, rfl, rfl, rfl, rfl, rfl, by show l = l ++ vecs _ b (J - J); rw [Nat.sub_self, vecs, List.append_nil], by show b = b.drop ((J - J) * _); rw [Nat.sub_self, Nat.zero_mul, List.drop_zero], rfl⟩
theorem brm1Step0 : stepsOk PP uCx 100 133 74 (loopBody PP 133 11) 3 true uHa (uCk uLi) uF5 uO4 ⟨_, _, uI2, uI3, uO2⟩ := by
 intro x y hz
 obtain ⟨d, p, w, _, _, _, _, pn, pi, wn, wi, _⟩ := x
 obtain ⟨⟨b, e, _⟩, ⟨_, _⟩, ⟨W, _⟩, _, _⟩ := y
 refine (brm1Form0 d p w pn pi wn wi b e W _ _).mpr ?_
 obtain ⟨J, M, D, P, rfl, rfl, hJM, hM, rfl, rfl, hP, hD, hW1, rfl, hb4, hb, hx, hll, hl0⟩ := hz
 have hWb : D / P ≤ D := Nat.div_le_self _ _
 rw [ifp_lt]
 split
 ·rename_i h
  have hJ : J < M := by omega
  obtain ⟨s1, s2⟩ := uAl hJ hb4
  have e1 : wrapF .i64 (Int.tdiv (D : Int) (P : Int)) = ((D / P : Nat) : Int) := by rw [show Int.tdiv (D : Int) (P : Int) = ((D / P : Nat) : Int) from rfl, w64 (by omega) (by omega)]
  rw [e1]
  refine ⟨by omega, uQb, Or.inr (Or.inr (Or.inl ⟨trivial, trivial, Or.inr ⟨b, Wk.refl _, W, ⟨WkL.refl _, (by trivial), (by trivial)⟩, (by trivial), ⟨0, D / P, rfl, rfl, Nat.zero_le _, by omega, rfl, s1, hb, hx, Nat.zero_le _, Or.inl (by omega)⟩, fun c1 d1 hr => ?_, trivial⟩⟩))⟩
  obtain ⟨d1', p1, w1, _, _, _, _, v1, pn1, pi1, wn1, wi1, _⟩ := c1
  obtain ⟨⟨b1, f1, _⟩, _, ⟨W1, _⟩, _⟩ := d1
  obtain ⟨g1, g2, g3, g4, g5, g6, g7, gW, gv, gb, ge⟩ := hr
  obtain rfl : d1' = (D : Int) := g1
  obtain rfl : p1 = (P : Int) := g2
  obtain rfl : w = w1 := Eq.symm g3
  obtain rfl : pn = pn1 := Eq.symm g4
  obtain rfl : pi = pi1 := Eq.symm g5
  obtain rfl : wn1 = (M : Int) := g6
  obtain rfl : wi1 = (J : Int) := g7
  obtain rfl : W = W1 := Eq.symm gW
  obtain rfl : v1 = nums b (D / P) := gv
  obtain rfl : b1 = b.drop (D / P * 4) := gb
  obtain rfl : f1 = 0 := ge
  dsimp only
  refine ⟨Nat.le_refl _, ?_⟩
  refine ⟨trivial, Or.inl ⟨[nums b (D / P)], ⟨wkl_one (E := Ell) ⟨wk_of_own, trivial⟩, (by trivial), (by trivial)⟩, b.drop (D / P * 4), Wk.refl _, W, ⟨WkL.refl _, (by trivial), (by trivial)⟩, (by trivial), ?_⟩⟩
  rw [wsucc (by omega)]
  refine ⟨⟨J + 1, M, D, P, rfl, rfl, hJ, hM, rfl, rfl, hP, hD, hW1, rfl, by rw [List.length_drop]; exact s2, by rw [List.length_drop]; omega, fun y hy => hx y (List.mem_of_mem_drop hy), by show 1 ≤ J + 1; omega, Or.inr (by simp)⟩, by show M - (J + 1) < M - J; omega, fun cc dd hh => ?_, trivial⟩
  obtain ⟨d2, p2, w2, _, _, _, l2, pn2, pi2, _⟩ := cc
  obtain ⟨⟨b3, e3, _⟩, _, ⟨W2, _⟩, _⟩ := dd
  obtain ⟨g1, g2, g3, g4, g5, gW, gv, gb, ge⟩ := hh
  exact ⟨g1, g2, g3, g4, g5, gW, (show l2 = ([nums b (D / P)]) ++ vecs (D / P) (b.drop (D / P * 4)) (M - (J + 1)) from gv).trans (uB7 (v := []) hJ).symm, (show b3 = (b.drop (D / P * 4)).drop ((M - (J + 1)) * (D / P * 4)) from gb).trans (uAj hJ).symm, ge⟩
 ·rename_i h
  obtain rfl : J = M := by omega
  exact absurd rfl (hl0.resolve_left (by omega))
theorem brm1Ok : LoopOk PP 133 74 (.loop (loopBody PP 133 11)) (uT0) := loop_ok uO4  mixed (KL_ok (cc_nil)) rfl (steps_cons brm1Step (steps_cons brm1Step0 (steps_nil)))
noncomputable def brmC : LoopC := orL uT1 uT0
theorem uTz : LoopOk PP 133 74 (.loop (loopBody PP 133 11)) brmC := orL_ok brm0Ok brm1Ok
abbrev uE9 := Int × Int × Int × Unit × Unit × Unit × Int × Int × Unit
abbrev broZ := uE9 × uEs
noncomputable def uS1 : Tel uE9 := .ji 1 (.ji 2 (.ji 3 (.cons 8 (.ptr 1) (.cons 10 (.ptr 0) (.cons 11 (.ptr 2) (.ji 39 (.ji 40 (.nil))))))))
noncomputable def uS3 : BTel uEs := .cons uAm (.cons uAd (.cons uBi (.cons (.spare) (.nil))))
noncomputable def uOz : Tel uE9 := .ji 1 (.ji 2 (.ji 3 (.cons 8 (.ptr 1) (.cons 10 (.ptr 0) (.cons 11 (.ptr 2) (.ji 39 (.ji 40 (.nil))))))))
noncomputable def uO1 : BTel uCq := .cons uAm (.cons uAd (.cons uAd (.nil)))
noncomputable def uS0 : uE9 → uCq → broZ := fun (d, p, w, (), (), (), pn, pi, ()) ((b, e, ()), ((), ()), ((), ()), ()) => ((d, p, w, (), (), (), pn, pi, ()), (b, e, ()), ((), ()), ([], ()), (), ())
noncomputable def uO0 : List (LForm broZ) := [⟨_, _, uS1, uS3, fun x y => (x, y)⟩, ⟨_, _, uOz, uO1, uS0⟩]
abbrev uMa := Unit × Unit × Unit
abbrev uL9 := uA0 × uAi × uCw × Unit × Unit
noncomputable def uEc (R0 : broZ → uMa → uL9 → Prop) : List (Alt broZ) := [⟨.exit 1, uMa, uL9, .cons 8 (.ptr 1) (.cons 11 (.ptr 2) (.nil)), .cons uAm (.cons uAd (.cons uBi (.cons (.spare) (.nil)))), R0⟩]
noncomputable abbrev uKn := KL [] [(133, [(11, brmC)])]
theorem broForm (d p w pn pi : Int) (b : List Int) (e : Int) (W : List (List (List Int))) (N : broZ → Prop) (R0 : broZ → uMa → uL9 → Prop) : ((runW PP uKn 100).code none 133 74 (loopBody PP 133 8) (mkT (uS1.av id (d, p, w, (), (), (), pn, pi, ()))) [] (stL true (uS3.obs id ((b, e, ()), ((), ()), (W, ()), (), ()))) (postL 3 uO0 (uEc R0) ((d, p, w, (), (), (), pn, pi, ()), (b, e, ()), ((), ()), (W, ()), (), ()) N)) = ( ifp (!leInt pn pi) (LoopOk PP 133 74 (loopBody PP 133 11).loop brmC ∧ (True ∧ True ∧ (False ∨ ∃ l, Wv Eu8 b l ∧ False) ∨ True ∧ True ∧ (False ∨ ∃ l, Wv Eu8 b l ∧ ∃ l_1, Ow Ecs W l_1 1 ∧ true = true ∧ uF5 ((d, p, w, (), (), (), [], pn, pi, w, 0, ()), (l, e, ()), ((), ()), (l_1, ()), (), (), ()) ∧ (∀ c d_1, uLi ((d, p, w, (), (), (), [], pn, pi, w, 0, ()), (l, e, ()), ((), ()), (l_1, ()), (), (), ()) c d_1 → 1 ≤ 1 ∧ ifp (roomy (d_1.2.2.1.1.length.add 1) 24) (True ∧ ((∃ l, Wv Eu8 d_1.1.1 l ∧ ∃ (l_2 : List (List (List Int))), (WkL (List.flatMap Ecs.f d_1.2.2.1.1 ++ [AV.vs (List.flatMap Ell.f c.2.2.2.2.2.2.1) c.2.2.2.2.2.2.1.length c.2.2.2.2.2.2.1.length false (some 5) 1]) (l_2.flatMap Ecs.f) ∧ d_1.2.2.1.1.length.add 1 = l_2.length ∧ 1 = 1) ∧ true = true ∧ N ((c.1, c.2.1, c.2.2.1, (), (), (), c.2.2.2.2.2.2.2.1, wrapF .i64 (c.2.2.2.2.2.2.2.2.1.add 1), ()), (l, d_1.1.2.1, ()), ((), ()), (l_2, ()), (), ())) ∨ ∃ l, Wv Eu8 d_1.1.1 l ∧ False)) False) ∧ True))) (True ∧ ∃ l, Wv Eu8 b l ∧ ∃ l_1, Ow Ecs W l_1 1 ∧ true = true ∧ R0 ((d, p, w, (), (), (), pn, pi, ()), (b, e, ()), ((), ()), (W, ()), (), ()) ((), (), ()) ((l, e, ()), ((), ()), (l_1, ()), (), ()))) := by kernel_rfl
theorem broForm0 (d p w pn pi : Int) (b : List Int) (e : Int) (N : broZ → Prop) (R0 : broZ → uMa → uL9 → Prop) : ((runW PP uKn 100).code none 133 74 (loopBody PP 133 8) (mkT (uOz.av id (d, p, w, (), (), (), pn, pi, ()))) [] (stL true (uO1.obs id ((b, e, ()), ((), ()), ((), ()), ()))) (postL 3 uO0 (uEc R0) (uS0 (d, p, w, (), (), (), pn, pi, ()) ((b, e, ()), ((), ()), ((), ()), ())) N)) = ( ifp (!leInt pn pi) (LoopOk PP 133 74 (loopBody PP 133 11).loop brmC ∧ (True ∧ True ∧ (False ∨ ∃ l, Wv Eu8 b l ∧ true = true ∧ uF6 ((d, p, w, (), (), (), [], pn, pi, w, 0, ()), (l, e, ()), ((), ()), ((), ()), (), ()) ∧ (∀ c d_1, uLj ((d, p, w, (), (), (), [], pn, pi, w, 0, ()), (l, e, ()), ((), ()), ((), ()), (), ()) c d_1 → 1 ≤ 1 ∧ True ∧ ((∃ l, Wv Eu8 d_1.1.1 l ∧ ∃ (l_1 : List (List (List Int))), (WkL [AV.vs (List.flatMap Ell.f c.2.2.2.2.2.2.1) c.2.2.2.2.2.2.1.length c.2.2.2.2.2.2.1.length false (some 3) 1] (l_1.flatMap Ecs.f) ∧ 1 = l_1.length ∧ 1 = 1) ∧ true = true ∧ N ((c.1, c.2.1, c.2.2.1, (), (), (), c.2.2.2.2.2.2.2.1, wrapF .i64 (c.2.2.2.2.2.2.2.2.1.add 1), ()), (l, d_1.1.2.1, ()), ((), ()), (l_1, ()), (), ())) ∨ ∃ l, Wv Eu8 d_1.1.1 l ∧ False)) ∧ True) ∨ True ∧ True ∧ (False ∨ ∃ l, Wv Eu8 b l ∧ False))) (True ∧ ∃ l, Wv Eu8 b l ∧ False)) := by kernel_rfl
def uLh : broZ → Prop := fun ((d, p, w, (), (), (), pn, pi, ()), (b, e, ()), ((), ()), (W, ()), (), ()) => ∃ I Pn M D : Nat, pn = Pn ∧ pi = I ∧ I ≤ Pn ∧ Pn ≤ 1024 ∧ d = D ∧ p = Pn ∧ w = M ∧ 1 ≤ M ∧ M ≤ 256 ∧ D ≤ 1024 ∧ 1 ≤ D / Pn ∧ e = 0 ∧ (Pn - I) * (M * (D / Pn * 4)) ≤ b.length ∧ b.length ≤ 16777216 ∧ uAe b ∧ W.length ≤ I ∧ (I < Pn ∨ W ≠ [])
def uS2 : broZ → Nat := fun ((d, p, w, (), (), (), pn, pi, ()), (b, e, ()), ((), ()), (W, ()), (), ()) => pn.toNat - pi.toNat
def uQa : broZ → uMa → uL9 → Prop := fun ((d, p, w, (), (), (), pn, pi, ()), (b, e, ()), ((), ()), (W, ()), (), ()) _ (_, _, (W2, _), _) => W2 = W ++ prts (Int.tdiv d p).toNat w.toNat b (pn.toNat - pi.toNat)
noncomputable def broC : LoopC := loopC 3 uO0 (uEc uQa) uLh
theorem broStep : stepsOk PP uKn 100 133 74 (loopBody PP 133 8) 3 true uO0 (uEc uQa) uLh uS2 ⟨_, _, uS1, uS3, fun x y => (x, y)⟩ := by
 intro x y hz
 obtain ⟨d, p, w, _, _, _, pn, pi, _⟩ := x
 obtain ⟨⟨b, e, _⟩, ⟨_, _⟩, ⟨W, _⟩, _, _⟩ := y
 refine (broForm d p w pn pi b e W _ _).mpr ?_
 obtain ⟨I, Pn, M, D, rfl, rfl, hIP, hPn, rfl, rfl, rfl, hM1, hM, hD, hW1, rfl, hb4, hb, hx, hWl, hW0⟩ := hz
 rw [ifp_lt]
 split
 ·rename_i h
  have hI : I < Pn := by omega
  obtain ⟨s1, s2⟩ := uAl hI hb4
  refine ⟨uTz, Or.inr ⟨trivial, trivial, Or.inr ⟨b, Wk.refl _, W, ⟨WkL.refl _, (by trivial), (by trivial)⟩, (by trivial), ⟨0, M, D, Pn, rfl, rfl, Nat.zero_le _, hM, rfl, rfl, by omega, hD, hW1, rfl, s1, hb, hx, Nat.zero_le _, Or.inl (by omega)⟩, fun c1 d1 hr => ?_, trivial⟩⟩⟩
  obtain ⟨d1', p1, w1, _, _, _, l1, pn1, pi1, _⟩ := c1
  obtain ⟨⟨b1, f1, _⟩, _, ⟨W1, _⟩, _⟩ := d1
  obtain ⟨g1, g2, g3, g4, g5, gW, gv, gb, ge⟩ := hr
  obtain rfl : d1' = (D : Int) := g1
  obtain rfl : p1 = (Pn : Int) := g2
  obtain rfl : w1 = (M : Int) := g3
  obtain rfl : pn1 = (Pn : Int) := g4
  obtain rfl : pi1 = (I : Int) := g5
  obtain rfl : W = W1 := Eq.symm gW
  obtain rfl : l1 = vecs (D / Pn) b M := gv
  obtain rfl : b1 = b.drop (M * (D / Pn * 4)) := gb
  obtain rfl : f1 = 0 := ge
  dsimp only
  refine ⟨Nat.le_refl _, ?_⟩
  rw [ifp_pos (roomy_small (by show W.length + 1 ≤ _; omega) (by decide))]
  refine ⟨trivial, Or.inl ⟨b.drop (M * (D / Pn * 4)), Wk.refl _, W ++ [vecs (D / Pn) b M], ⟨wkl_snoc (E := Ecs) ⟨wk_of_own, trivial⟩, len_snoc, (by trivial)⟩, (by trivial), ?_⟩⟩
  rw [wsucc (by omega)]
  refine ⟨⟨I + 1, Pn, M, D, rfl, rfl, hI, hPn, rfl, rfl, rfl, hM1, hM, hD, hW1, rfl, by rw [List.length_drop]; exact s2, by rw [List.length_drop]; omega, fun y hy => hx y (List.mem_of_mem_drop hy), by simp; omega, Or.inr (by simp)⟩, by show Pn - (I + 1) < Pn - I; omega, fun cc dd hh => ?_, trivial⟩
  obtain ⟨⟨b3, e3, _⟩, _, ⟨W2, _⟩, _⟩ := dd
  exact (show W2 = (W ++ [vecs (D / Pn) b M]) ++ prts (D / Pn) M (b.drop (M * (D / Pn * 4))) (Pn - (I + 1)) from hh).trans (uG0 hI).symm
 ·rename_i h
  obtain rfl : I = Pn := by omega
  exact ⟨trivial, b, Wk.refl _, W, ⟨WkL.refl _, (by trivial), (by trivial)⟩, (by trivial), by show W = W ++ prts _ _ b (I - I); rw [Nat.sub_self, prts, List.append_nil]⟩
theorem broStep0 : stepsOk PP uKn 100 133 74 (loopBody PP 133 8) 3 true uO0 (uEc uQa) uLh uS2 ⟨_, _, uOz, uO1, uS0⟩ := by
 intro x y hz
 obtain ⟨d, p, w, _, _, _, pn, pi, _⟩ := x
 obtain ⟨⟨b, e, _⟩, ⟨_, _⟩, ⟨_, _⟩, _⟩ := y
 refine (broForm0 d p w pn pi b e _ _).mpr ?_
 obtain ⟨I, Pn, M, D, rfl, rfl, hIP, hPn, rfl, rfl, rfl, hM1, hM, hD, hW1, rfl, hb4, hb, hx, hWl, hW0⟩ := hz
 rw [ifp_lt]
 split
 ·rename_i h
  have hI : I < Pn := by omega
  obtain ⟨s1, s2⟩ := uAl hI hb4
  refine ⟨uTz, Or.inl ⟨trivial, trivial, Or.inr ⟨b, Wk.refl _, (by trivial), ⟨0, M, D, Pn, rfl, rfl, Nat.zero_le _, hM, rfl, rfl, by omega, hD, hW1, rfl, s1, hb, hx, Nat.zero_le _, Or.inl (by omega)⟩, fun c1 d1 hr => ?_, trivial⟩⟩⟩
  obtain ⟨d1', p1, w1, _, _, _, l1, pn1, pi1, _⟩ := c1
  obtain ⟨⟨b1, f1, _⟩, _, _⟩ := d1
  obtain ⟨g1, g2, g3, g4, g5, gv, gb, ge⟩ := hr
  obtain rfl : d1' = (D : Int) := g1
  obtain rfl : p1 = (Pn : Int) := g2
  obtain rfl : w1 = (M : Int) := g3
  obtain rfl : pn1 = (Pn : Int) := g4
  obtain rfl : pi1 = (I : Int) := g5
  obtain rfl : l1 = vecs (D / Pn) b M := gv
  obtain rfl : b1 = b.drop (M * (D / Pn * 4)) := gb
  obtain rfl : f1 = 0 := ge
  dsimp only
  refine ⟨Nat.le_refl _, ?_⟩
  refine ⟨trivial, Or.inl ⟨b.drop (M * (D / Pn * 4)), Wk.refl _, [vecs (D / Pn) b M], ⟨wkl_one (E := Ecs) ⟨wk_of_own, trivial⟩, (by trivial), (by trivial)⟩, (by trivial), ?_⟩⟩
  rw [wsucc (by omega)]
  refine ⟨⟨I + 1, Pn, M, D, rfl, rfl, hI, hPn, rfl, rfl, rfl, hM1, hM, hD, hW1, rfl, by rw [List.length_drop]; exact s2, by rw [List.length_drop]; omega, fun y hy => hx y (List.mem_of_mem_drop hy), by show 1 ≤ I + 1; omega, Or.inr (by simp)⟩, by show Pn - (I + 1) < Pn - I; omega, fun cc dd hh => ?_, trivial⟩
  obtain ⟨⟨b3, e3, _⟩, _, ⟨W2, _⟩, _⟩ := dd
  exact (show W2 = ([vecs (D / Pn) b M]) ++ prts (D / Pn) M (b.drop (M * (D / Pn * 4))) (Pn - (I + 1)) from hh).trans (uG0 (v := []) hI).symm
 ·rename_i h
  obtain rfl : I = Pn := by omega
  exact absurd rfl (hW0.resolve_left (by omega))
theorem broOk : LoopOk PP 133 74 (.loop (loopBody PP 133 8)) (broC) := loop_ok uS2  mixed (KL_ok (cc_nil)) rfl (steps_cons broStep (steps_cons broStep0 (steps_nil)))
def bkR (x : List Int) (d p w : Int) : List (List (List Int)) × Int :=
 if 1 ≤ d ∧ d ≤ 1024 ∧ 1 ≤ p ∧ Int.tmod d p = 0 ∧ 1 ≤ w ∧ w ≤ 256 then
  if (x.length : Int) ≠ 4 * d * w then ([], 4)
  else if uBf (prts (Int.tdiv d p).toNat w.toNat x p.toNat) = 0 then (prts (Int.tdiv d p).toNat w.toNat x p.toNat, 0) else ([], 4)
 else ([], 2)
noncomputable def uPa : Tel ((List Int) × Int × Int × Int × Unit) := .cons 0 (.lst Eu8) (.ji 1 (.ji 2 (.ji 3 (.nil))))
theorem breadFn (x : List Int) (d p w : Int) (Q : AV → Prop) : (callW PP (runW PP (KL [(198, uTo), (199, uTr), (138, uPi)] [(133, [(8, broC)])]) 200) 133 (uPa.cells id (x, d, p, w, ())) (stE true) (fun x st => frzW st x Q)) = ( uHo (d, p, ()) ∧ ifp (!eqInt (uFc d p) 0) (Q (AV.tuple [AV.agg [AV.nilSlice], I64 2])) (ifp (!leInt 1 w) (Q (AV.tuple [AV.agg [AV.nilSlice], I64 2])) (ifp (!leInt w 256) (Q (AV.tuple [AV.agg [AV.nilSlice], I64 2])) (ifp (!eqInt (Int.ofNat x.length) (wrapF .i64 ((wrapF .i64 (Int.mul 4 d)).mul w))) (Q (AV.tuple [AV.agg [AV.nilSlice], I64 4])) (∃ l, Wv Eu8 x l ∧ true = true ∧ uHt ((l, ()), ()) ∧ (∀ c d_1, uMq ((l, ()), ()) c d_1 → LoopOk PP 133 74 (loopBody PP 133 8).loop broC ∧ True ∧ True ∧ ((∃ l, Wv Eu8 d_1.1.1 l ∧ False) ∨ ∃ l, Wv Eu8 d_1.1.1 l ∧ true = true ∧ uLh ((d, p, w, (), (), (), p, 0, ()), (l, d_1.1.2.1, ()), ((), ()), ([], ()), (), ()) ∧ (∀ c d_2, uQa ((d, p, w, (), (), (), p, 0, ()), (l, d_1.1.2.1, ()), ((), ()), ([], ()), (), ()) c d_2 → ∃ (a : Bk), WkL [AV.vs (List.flatMap Ecs.f d_2.2.2.1.1) d_2.2.2.1.1.length d_2.2.2.1.1.length false (some 3) 1] (Ebk.f a) ∧ uCv (a, ()) ∧ ifp (!eqInt (uBf a.1) 0) (Q (AV.tuple [AV.agg [AV.nilSlice], I64 4])) (Q (AV.tuple [AV.agg [AV.vs (List.flatMap Ecs.f d_2.2.2.1.1) d_2.2.2.1.1.length d_2.2.2.1.1.length false (some 3) 1], I64 0]))) ∧ True)) ∧ True))))) := by kernel_rfl
def uGk : (List Int) × Int × Int × Int × Unit → Prop := fun (x, d, p, w, ()) => uAe x ∧ x.length ≤ 16777216
noncomputable def uGj : (List Int) × Int × Int × Int × Unit → AV := fun (x, d, p, w, ()) => .tuple [.agg [lst Ecs (bkR x d p w).1], .int .i64 (bkR x d p w).2]
noncomputable def uRd : CallC := valC uPa uGk uGj
theorem breadVal (x : List Int) (d : Int) (p : Int) (w : Int) (hp : uGk (x, d, p, w, ())) : Val PP 133 (uPa.cells id (x, d, p, w, ())) (uGj (x, d, p, w, ())) := by
 refine Val.ofF mixed (KL_ok (cc_cons pchkCc (cc_cons onewCc (cc_cons uLk (cc_nil))))) (freesC rfl _) (breadFn x d p w) ?_
 obtain ⟨hxb, hxl⟩ := hp
 have hT : ∀ {u : AV}, Tells u (uGj (x, d, p, w, ())) = Tells u (.tuple [.agg [lst Ecs (bkR x d p w).1], .int .i64 (bkR x d p w).2]) := rfl
 simp only [hT]
 refine ⟨trivial, ?_⟩
 rw [ifp_ne]
 split
 case isFalse h =>
  have ev : bkR x d p w = ([], 2) := by rw [bkR, if_neg]; rintro ⟨a1, a2, a3, a4, _⟩; exact h (uEw.2 ⟨a1, a2, a3, a4⟩)
  rw [ev]; exact tells_tuple ⟨tells_agg ⟨tells_nil _, trivial⟩, tells_int rfl, trivial⟩
 case isTrue h =>
  have hc : 1 ≤ d ∧ d ≤ 1024 ∧ 1 ≤ p ∧ Int.tmod d p = 0 := uEw.1 h
  obtain ⟨c1, c2, c3, c4⟩ := hc
  rw [ifp_lt]
  split
  ·have ev : bkR x d p w = ([], 2) := by rw [bkR, if_neg (by omega)]
   rw [ev]; exact tells_tuple ⟨tells_agg ⟨tells_nil _, trivial⟩, tells_int rfl, trivial⟩
  ·rw [ifp_lt]
   split
   ·have ev : bkR x d p w = ([], 2) := by rw [bkR, if_neg (by omega)]
    rw [ev]; exact tells_tuple ⟨tells_agg ⟨tells_nil _, trivial⟩, tells_int rfl, trivial⟩
   ·have hall : 1 ≤ d ∧ d ≤ 1024 ∧ 1 ≤ p ∧ Int.tmod d p = 0 ∧ 1 ≤ w ∧ w ≤ 256 := ⟨c1, c2, c3, c4, by omega, by omega⟩
    have hpr := uBl (a := 4 * d) (A := 4096) (b := w) (B := 256) (by omega) (by omega) (by omega) (by omega)
    have e1 : wrapF .i64 (Int.mul 4 d) = 4 * d := w64 (by show _ ≤ 4 * d; omega) (by show 4 * d < _; omega)
    have e2 : wrapF .i64 (Int.mul (4 * d) w) = 4 * d * w := w64 (by show _ ≤ 4 * d * w; omega) (by show 4 * d * w < _; omega)
    simp only [e1, e2]
    rw [ifp_ne]
    split
    case isFalse h5 =>
     have ev : bkR x d p w = ([], 4) := by rw [bkR, if_pos hall, if_pos (show (x.length : Int) ≠ _ from h5)]
     rw [ev]; exact tells_tuple ⟨tells_agg ⟨tells_nil _, trivial⟩, tells_int rfl, trivial⟩
    case isTrue h5 =>
     have h5' : (x.length : Int) = 4 * d * w := h5
     obtain ⟨D, rfl⟩ := Int.eq_ofNat_of_zero_le (show 0 ≤ d by omega)
     obtain ⟨Pn, rfl⟩ := Int.eq_ofNat_of_zero_le (show 0 ≤ p by omega)
     obtain ⟨M, rfl⟩ := Int.eq_ofNat_of_zero_le (show 0 ≤ w by omega)
     have hmod : D % Pn = 0 := by have h9 : ((D % Pn : Nat) : Int) = 0 := c4; omega
     have hdiv : D / Pn * Pn = D := Nat.div_mul_cancel (Nat.dvd_of_mod_eq_zero hmod)
     have hDP : 1 ≤ D / Pn := by
      rcases Nat.eq_zero_or_pos (D / Pn) with h9 | h9
      ·rw [h9, Nat.zero_mul] at hdiv; omega
      ·exact h9
     have hPD : Pn ≤ D := by
      have := Nat.mul_le_mul_right Pn hDP
      rw [Nat.one_mul, hdiv] at this; exact this
     have hlen : Pn * (M * (D / Pn * 4)) = x.length := by
      have e : Pn * (M * (D / Pn * 4)) = 4 * (D / Pn * Pn) * M := by
       rw [show Pn * (M * (D / Pn * 4)) = M * (Pn * (D / Pn * 4)) by rw [Nat.mul_left_comm], show Pn * (D / Pn * 4) = 4 * (D / Pn * Pn) by rw [← Nat.mul_assoc, Nat.mul_comm Pn, Nat.mul_comm _ 4], Nat.mul_comm]
      rw [e, hdiv]
      have : ((4 * D * M : Nat) : Int) = (x.length : Int) := by rw [h5']; simp [Int.natCast_mul]
      omega
     have ebk : bkR x (D : Int) (Pn : Int) (M : Int) = if uBf (prts (D / Pn) M x Pn) = 0 then (prts (D / Pn) M x Pn, 0) else ([], 4) := by
      rw [bkR, if_pos hall, if_neg (by simpa using h5')]; rfl
     refine ⟨x, Wk.refl _, (by trivial), hxl, fun c0 d0 hr => ?_, trivial⟩
     obtain ⟨⟨b0, e0, _⟩, _⟩ := d0
     obtain ⟨g1, g2⟩ := hr
     obtain rfl : x = b0 := Eq.symm g1
     obtain rfl : e0 = 0 := g2
     refine ⟨broOk, trivial, trivial, Or.inr ⟨x, Wk.refl _, (by trivial), ⟨0, Pn, M, D, rfl, rfl, Nat.zero_le _, by omega, rfl, rfl, rfl, by omega, by omega, by omega, hDP, rfl, by rw [Nat.sub_zero, hlen]; exact Nat.le_refl _, hxl, hxb, Nat.zero_le _, Or.inl (by omega)⟩, fun c2 d2 hr => ?_, trivial⟩⟩
     obtain ⟨_, _, ⟨W2, _⟩, _⟩ := d2
     obtain rfl : W2 = prts (D / Pn) M x Pn := hr
     refine ⟨(prts (D / Pn) M x Pn, ()), ⟨wk_of_own, trivial⟩, fun l hl => ?_, ?_⟩
     ·have := uFa _ _ l hl
      omega
     ·dsimp only
      rw [ifp_ne]
      split
      ·rename_i h6
       rw [if_pos h6] at ebk
       rw [ebk]; exact tells_tuple ⟨tells_agg ⟨tells_own, trivial⟩, tells_int rfl, trivial⟩
      ·rename_i h6
       rw [if_neg h6] at ebk
       rw [ebk]; exact tells_tuple ⟨tells_agg ⟨tells_nil _, trivial⟩, tells_int rfl, trivial⟩
theorem breadCc : CcOk PP 133 uRd := val_ok rfl (fun ⟨x, ⟨d, ⟨p, ⟨w, _⟩⟩⟩⟩ h => breadVal x d p w h)
theorem uIs {c : Cf} (h : cfgE c = 0) : sizedB c = true ∧ (1 ≤ c.1 ∧ c.1 ≤ 1024) ∧ (1 ≤ c.2.2.2.1 ∧ c.2.2.2.1 ≤ 4096) ∧ (1 ≤ c.2.2.1 ∧ c.2.2.1 ≤ 256) ∧ (1 ≤ c.2.1 ∧ Int.tmod c.1 c.2.1 = 0) := by
 rw [cfgE] at h
 split at h
 ·rename_i h1
  have hB := h1.1
  simp only [cfgB, Bool.and_eq_true, decide_eq_true_eq] at hB
  obtain ⟨s1, s2, s3, s4⟩ := uA2.1 hB.1
  refine ⟨hB.1, s1, s2, s3, hB.2.1, ?_⟩
  have h2 := hB.2.2.1
  rwa [show max 1 c.2.1 = c.2.1 by omega] at h2
 ·cases h
def irT (c : Cf) (b : List Int) : Tn := ((uAy (b.take (4 * c.2.2.2.1 * c.1).toNat) c.2.2.2.1 c.1).1, (bkR (b.drop (4 * c.2.2.2.1 * c.1).toNat) c.1 c.2.1 c.2.2.1).1, ())
def irV (c : Cf) (b : List Int) : Tn × Int :=
 if cfgE c ≠ 0 then (([], [], ()), cfgE c) else if (b.length : Int) ≠ iszV c then (([], [], ()), 4) else if ctE c (irT c b) ≠ 0 then (([], [], ()), 4) else (irT c b, 0)
noncomputable def uM4 : Tel (Cf × (List Int) × Unit) := .cons 0 (.agg Ecf) (.cons 1 (.lst Eu8) (.nil))
theorem ireadFn (c : Cf) (b : List Int) (Q : AV → Prop) : (callW PP (runW PP (KL [(130, cfgK), (131, iszK), (132, uTj), (133, uRd), (64, uK9)] []) 200) 61 (uM4.cells id (c, b, ())) (stE true) (fun x st => frzW st x Q)) = ( ∃ (a : Cf), AV.agg [I64 c.1, I64 c.2.1, I64 c.2.2.1, I64 c.2.2.2.1, I64 c.2.2.2.2.1, I64 c.2.2.2.2.2.1, I64 c.2.2.2.2.2.2.1, I64 c.2.2.2.2.2.2.2.1] = AV.agg [I64 a.1, I64 a.2.1, I64 a.2.2.1, I64 a.2.2.2.1, I64 a.2.2.2.2.1, I64 a.2.2.2.2.2.1, I64 a.2.2.2.2.2.2.1, I64 a.2.2.2.2.2.2.2.1] ∧ uLc (a, ()) ∧ ifp (!eqInt (cfgE a) 0) (Q (AV.tuple [AV.agg [AV.nilSlice, AV.nilSlice], I64 (cfgE a)])) (∃ (a : Cf), AV.agg [I64 c.1, I64 c.2.1, I64 c.2.2.1, I64 c.2.2.2.1, I64 c.2.2.2.2.1, I64 c.2.2.2.2.2.1, I64 c.2.2.2.2.2.2.1, I64 c.2.2.2.2.2.2.2.1] = AV.agg [I64 a.1, I64 a.2.1, I64 a.2.2.1, I64 a.2.2.2.1, I64 a.2.2.2.2.1, I64 a.2.2.2.2.2.1, I64 a.2.2.2.2.2.2.1, I64 a.2.2.2.2.2.2.2.1] ∧ uG5 (a, ()) ∧ ifp (!eqInt (Int.ofNat b.length) (iszV a)) (Q (AV.tuple [AV.agg [AV.nilSlice, AV.nilSlice], I64 4])) ((0 : Int) ≤ wrapF .i64 ((wrapF .i64 (Int.mul 4 c.2.2.2.1)).mul c.1) ∧ wrapF .i64 ((wrapF .i64 (Int.mul 4 c.2.2.2.1)).mul c.1) ≤ ↑b.length ∧ natOf (wrapF .i64 ((wrapF .i64 (Int.mul 4 c.2.2.2.1)).mul c.1)) ≤ b.length ∧ (b.flatMap Eu8.f).length = b.length.mul 1 ∧ ∃ (l : List Int), Wk (AV.vs (List.take (((natOf (wrapF .i64 ((wrapF .i64 (Int.mul 4 c.2.2.2.1)).mul c.1))).sub 0).mul 1) (List.drop 0 (b.flatMap Eu8.f))) ((natOf (wrapF .i64 ((wrapF .i64 (Int.mul 4 c.2.2.2.1)).mul c.1))).sub 0) (b.length.sub 0) (mxEx none false) none 1) (lst Eu8 l) ∧ uHk (l, c.2.2.2.1, c.1, ()) ∧ True ∧ True ∧ True ∧ (0 : Int) ≤ wrapF .i64 ((wrapF .i64 (Int.mul 4 c.2.2.2.1)).mul c.1) ∧ wrapF .i64 ((wrapF .i64 (Int.mul 4 c.2.2.2.1)).mul c.1) ≤ ↑b.length ∧ b.length ≤ b.length ∧ (b.flatMap Eu8.f).length = b.length.mul 1 ∧ ∃ (l_1 : List Int), Wk (AV.vs (List.take ((b.length.sub (natOf (wrapF .i64 ((wrapF .i64 (Int.mul 4 c.2.2.2.1)).mul c.1)))).mul 1) (List.drop ((natOf (wrapF .i64 ((wrapF .i64 (Int.mul 4 c.2.2.2.1)).mul c.1))).mul 1) (b.flatMap Eu8.f))) (b.length.sub (natOf (wrapF .i64 ((wrapF .i64 (Int.mul 4 c.2.2.2.1)).mul c.1)))) (b.length.sub (natOf (wrapF .i64 ((wrapF .i64 (Int.mul 4 c.2.2.2.1)).mul c.1)))) (mxEx none false) none 1) (lst Eu8 l_1) ∧ uGk (l_1, c.1, c.2.1, c.2.2.1, ()) ∧ True ∧ True ∧ True ∧ True ∧ ∃ (a : Cf), AV.agg [I64 c.1, I64 c.2.1, I64 c.2.2.1, I64 c.2.2.2.1, I64 c.2.2.2.2.1, I64 c.2.2.2.2.2.1, I64 c.2.2.2.2.2.2.1, I64 c.2.2.2.2.2.2.2.1] = AV.agg [I64 a.1, I64 a.2.1, I64 a.2.2.1, I64 a.2.2.2.1, I64 a.2.2.2.2.1, I64 a.2.2.2.2.2.1, I64 a.2.2.2.2.2.2.1, I64 a.2.2.2.2.2.2.2.1] ∧ ∃ (a_1 : Tn), WkL [AV.vs (List.flatMap Ell.f (uAy l c.2.2.2.1 c.1).1) (uAy l c.2.2.2.1 c.1).1.length (uAy l c.2.2.2.1 c.1).1.length false none 1, AV.vs (List.flatMap Ecs.f (bkR l_1 c.1 c.2.1 c.2.2.1).1) (bkR l_1 c.1 c.2.1 c.2.2.1).1.length (bkR l_1 c.1 c.2.1 c.2.2.1).1.length false none 1] (Etr.f a_1) ∧ uB3 (a, a_1, ()) ∧ ifp (!eqInt (ctE a a_1) 0) (Q (AV.tuple [AV.agg [AV.nilSlice, AV.nilSlice], I64 4])) (Q (AV.tuple [AV.agg [AV.vs (List.flatMap Ell.f (uAy l c.2.2.2.1 c.1).1) (uAy l c.2.2.2.1 c.1).1.length (uAy l c.2.2.2.1 c.1).1.length false none 1, AV.vs (List.flatMap Ecs.f (bkR l_1 c.1 c.2.1 c.2.2.1).1) (bkR l_1 c.1 c.2.1 c.2.2.1).1.length (bkR l_1 c.1 c.2.1 c.2.2.1).1.length false none 1], I64 0]))))) := by kernel_rfl
def uCg : Cf × (List Int) × Unit → Prop := fun (c, b, ()) => uAe b ∧ b.length ≤ 16777216
noncomputable def uFi : Cf × (List Int) × Unit → AV := fun (c, b, ()) => .tuple [.agg [lst Ell (irV c b).1.1, lst Ecs (irV c b).1.2.1], .int .i64 (irV c b).2]
noncomputable def uQq : CallC := valC uM4 uCg uFi
theorem ireadVal (c : Cf) (b : List Int) (hp : uCg (c, b, ())) : Val PP 61 (uM4.cells id (c, b, ())) (uFi (c, b, ())) := by
 refine Val.ofF mixed (KL_ok (cc_cons uTw (cc_cons uSd (cc_cons readCc (cc_cons breadCc (cc_cons uIl (cc_nil))))))) (freesC rfl _) (ireadFn c b) ?_
 obtain ⟨hbb, hbl⟩ := hp
 have hT : ∀ {u : AV}, Tells u (uFi (c, b, ())) = Tells u (.tuple [.agg [lst Ell (irV c b).1.1, lst Ecs (irV c b).1.2.1], .int .i64 (irV c b).2]) := rfl
 simp only [hT]
 refine ⟨c, rfl, trivial, ?_⟩
 rw [ifp_ne]
 split
 case isFalse h =>
  have ev : irV c b = (([], [], ()), cfgE c) := by rw [irV, if_pos h]
  rw [ev]; exact tells_tuple ⟨tells_agg ⟨tells_nil _, tells_nil _, trivial⟩, tells_int rfl, trivial⟩
 case isTrue h =>
  obtain ⟨q1, q2, q3, q4, q5⟩ := uIs h
  refine ⟨c, rfl, trivial, ?_⟩
  rw [ifp_ne]
  split
  case isFalse h2 =>
   have ev : irV c b = (([], [], ()), 4) := by rw [irV, if_neg (by rw [h]; simp), if_pos (show (b.length : Int) ≠ _ from h2)]
   rw [ev]; exact tells_tuple ⟨tells_agg ⟨tells_nil _, tells_nil _, trivial⟩, tells_int rfl, trivial⟩
  case isTrue h2 =>
   have h2' : (b.length : Int) = iszV c := h2
   have hpr := uBl (a := 4 * c.2.2.2.1) (A := 16384) (b := c.1) (B := 1024) (by omega) (by omega) (by omega) (by omega)
   have hpr2 := uBl (a := 4 * c.1) (A := 4096) (b := c.2.2.1) (B := 256) (by omega) (by omega) (by omega) (by omega)
   have e1 : wrapF .i64 (Int.mul 4 c.2.2.2.1) = 4 * c.2.2.2.1 := w64 (by show _ ≤ 4 * c.2.2.2.1; omega) (by show 4 * c.2.2.2.1 < _; omega)
   have e2 : wrapF .i64 (Int.mul (4 * c.2.2.2.1) c.1) = 4 * c.2.2.2.1 * c.1 := w64 (by show _ ≤ 4 * c.2.2.2.1 * c.1; omega) (by show 4 * c.2.2.2.1 * c.1 < _; omega)
   simp only [e1, e2]
   have hsz : iszV c = 4 * c.2.2.2.1 * c.1 + 4 * c.1 * c.2.2.1 := by
    rw [iszV, if_pos q1, Int.mul_add, Int.mul_right_comm 4 c.1 c.2.2.2.1]
   have ei : irT c b = ((uAy (b.take (4 * c.2.2.2.1 * c.1).toNat) c.2.2.2.1 c.1).1, (bkR (b.drop (4 * c.2.2.2.1 * c.1).toNat) c.1 c.2.1 c.2.2.1).1, ()) := rfl
   obtain ⟨n, hn⟩ := Int.eq_ofNat_of_zero_le hpr.1
   rw [hn] at ei hsz ⊢
   have hnb : n ≤ b.length := by omega
   rw [show ((n : Int)).toNat = n from rfl] at ei
   simp only [natOf_nat]
   have hbk : ∀ l ∈ (bkR (b.drop n) c.1 c.2.1 c.2.2.1).1, l.length ≤ 4194304 := fun l hl => by
    rw [bkR] at hl
    split at hl
    ·split at hl
     ·simp at hl
     ·split at hl
      ·have := uFa _ _ l hl; omega
      ·simp at hl
    ·simp at hl
   refine ⟨by omega, by omega, hnb, Enc.flen Eu8 b, b.take n, wk_vs ⟨by show List.take ((n - 0) * 1) (List.drop 0 _) = _; rw [List.drop_zero, Nat.mul_one, Nat.sub_zero, ftake1 (E := Eu8) rfl], by show n - 0 = _; rw [List.length_take]; omega, rfl⟩, fun y hy => hbb y (List.mem_of_mem_take hy), trivial, trivial, trivial, by omega, by omega, Nat.le_refl _, Enc.flen Eu8 b, b.drop n, wk_vs ⟨by show List.take ((b.length - n) * 1) (List.drop (n * 1) _) = _; rw [Nat.mul_one n, fdrop1 (E := Eu8) rfl, List.take_of_length_le (by rw [Enc.flen Eu8, List.length_drop]; exact Nat.le_refl _)], by show b.length - n = _; rw [List.length_drop], rfl⟩, ⟨fun y hy => hbb y (List.mem_of_mem_drop hy), by rw [List.length_drop]; omega⟩, trivial, trivial, trivial, trivial, c, rfl, irT c b, by rw [ei]; exact WkL.refl _, by rw [ei]; exact hbk, ?_⟩
   rw [ifp_ne]
   split
   ·rename_i h3
    have ev : irV c b = (irT c b, 0) := by rw [irV, if_neg (by rw [h]; simp), if_neg (by simpa using h2'), if_neg (by rw [h3]; simp)]
    rw [ev, ei]
    exact tells_tuple ⟨tells_agg ⟨tells_lst ⟨rfl, rfl, rfl⟩, tells_lst ⟨rfl, rfl, rfl⟩, trivial⟩, tells_int rfl, trivial⟩
   ·rename_i h3
    have ev : irV c b = (([], [], ()), 4) := by rw [irV, if_neg (by rw [h]; simp), if_neg (by simpa using h2'), if_pos h3]
    rw [ev]; exact tells_tuple ⟨tells_agg ⟨tells_nil _, tells_nil _, trivial⟩, tells_int rfl, trivial⟩
theorem ireadCc : CcOk PP 61 uQq := val_ok rfl (fun ⟨c, ⟨b, _⟩⟩ h => ireadVal c b h)
end Go.Proofs.YtcnnjlhecndhnaaGreat
namespace Go.Proofs.YtcnnjlhecndhnaaGreat
open Go.Det Go.RowKit
set_option maxRecDepth 100000
abbrev uD5 := ((List Int) × (List Int) × Int × Int × Unit) × (Unit)
noncomputable def uOf : Tel ((List Int) × (List Int) × Int × Int × Unit) := .cons 0 (.lst Ei32) (.cons 1 (.lst Ei32) (.ji 12 (.ji 13 (.nil))))
noncomputable def uOk : BTel (Unit) := .nil
noncomputable def uOj : List (LForm uD5) := [⟨_, _, uOf, uOk, fun x y => (x, y)⟩]
abbrev uBg := Bool × Unit
noncomputable def uFy (R0 : uD5 → (Unit) → (Unit) → Prop) (R1 : uD5 → uBg → (Unit) → Prop) : List (Alt uD5) := [⟨.exit 0, Unit, Unit, .nil, .nil, R0⟩, ⟨.ret, Bool × Unit, Unit, .cons 4 (.bool) (.nil), .nil, R1⟩]
theorem eq32Form (a b : List Int) (n i : Int) (N : uD5 → Prop) (R0 : uD5 → (Unit) → (Unit) → Prop) (R1 : uD5 → uBg → (Unit) → Prop) : ((runW PP (KL [] []) 100).code none 146 26 (loopBody PP 146 4) (mkT (uOf.av id (a, b, n, i, ()))) [] (stL false (uOk.obs id ())) (postL 0 uOj (uFy R0 R1) ((a, b, n, i, ()), ()) N)) = ( ifp (!leInt n i) (idxOk i a.length ∧ ∃ x : Int, nth ((natOf i).mul 1) (a.flatMap Ei32.f) = some (AV.int .i32 x) ∧ idxOk i b.length ∧ ∃ x_1 : Int, nth ((natOf i).mul 1) (b.flatMap Ei32.f) = some (AV.int .i32 x_1) ∧ ifp (!eqInt x x_1) (T3 <| true = true ∧ R1 ((a, b, n, i, ()), ()) (false, ()) ()) (T3 <| ∃ l, Wv Ei32 a l ∧ ∃ l_1, Wv Ei32 b l_1 ∧ true = true ∧ N ((l, l_1, n, wrapF .i64 (i.add 1), ()), ()))) (True ∧ true = true ∧ R0 ((a, b, n, i, ()), ()) () ())) := by kernel_rfl
def uIj : uD5 → Prop := fun ((a, b, n, i, ()), ()) => ∃ k : Nat, i = k ∧ n = a.length ∧ k ≤ a.length ∧ a.length < 9223372036854775807 ∧ a.length = b.length ∧ a.take k = b.take k
def uQ3 : uD5 → Nat := fun ((a, b, n, i, ()), ()) => a.length - i.toNat
def uOi : uD5 → (Unit) → (Unit) → Prop := fun ((a, b, n, i, ()), ()) _ _ => a = b
def uOh : uD5 → uBg → (Unit) → Prop := fun ((a, b, n, i, ()), ()) (r, _) _ => r = false ∧ a ≠ b
noncomputable def uSq : LoopC := loopC 0 uOj (uFy uOi uOh) uIj
theorem eq32Step : stepsOk PP (KL [] []) 100 146 26 (loopBody PP 146 4) 0 false uOj (uFy uOi uOh) uIj uQ3 ⟨_, _, uOf, uOk, fun x y => (x, y)⟩ := by
 intro x y hz
 obtain ⟨a, b, n, i, _⟩ := x
 obtain _ := y
 refine (eq32Form a b n i _ _ _).mpr ?_
 obtain ⟨k, rfl, rfl, hk, hl, hab, ht⟩ := hz
 rw [ifp_lt]
 simp only [natOf_nat]
 split
 ·rename_i h
  have hka : k < a.length := by simpa using h
  have hkb : k < b.length := by omega
  refine ⟨idx_ok hka, _, nth_int hka, idx_ok hkb, _, nth_int hkb, ?_⟩
  rw [ifp_ne]
  split
  ·rename_i h2
   refine ⟨trivial, trivial, trivial, a, Wk.refl _, b, Wk.refl _, (by trivial), ?_⟩
   rw [wsucc (by omega)]
   exact ⟨⟨k + 1, rfl, rfl, hka, hl, hab, (by rw [← List.take_append_getElem hka, ← List.take_append_getElem hkb, ht, h2])⟩, by show a.length - (k + 1) < a.length - k; omega, fun _ _ h => h, fun _ _ h => h, trivial⟩
  ·rename_i h2
   exact ⟨trivial, trivial, trivial, (by trivial), rfl, fun e => h2 (by subst e; rfl)⟩
 ·rename_i h
  have hka : ¬ k < a.length := by simpa using h
  exact ⟨trivial, (by trivial), by rw [take_all hka, take_all (by omega)] at ht; exact ht⟩
theorem eq32Ok : LoopOk PP 146 26 (.loop (loopBody PP 146 4)) (uSq) := loop_ok uQ3  mixed (KL_ok (cc_nil)) rfl (steps_cons eq32Step (steps_nil))
noncomputable def uSo : Tel ((List Int) × (List Int) × Unit) := .cons 0 (.lst Ei32) (.cons 1 (.lst Ei32) (.nil))
theorem eq32Fn (a b : List Int) (Q : AV → Prop) : (callW PP (runW PP (KL [] [(146, [(4, uSq)])]) 200) 146 (uSo.cells id (a, b, ())) (stE false) (fun x st => frzW st x Q)) = ( ifp (!eqInt (Int.ofNat a.length) (Int.ofNat b.length)) (Q (AV.bool false)) (LoopOk PP 146 26 (loopBody PP 146 4).loop uSq ∧ True ∧ True ∧ ∃ l, Wv Ei32 a l ∧ ∃ l_1, Wv Ei32 b l_1 ∧ true = true ∧ uIj ((l, l_1, Int.ofNat a.length, 0, ()), ()) ∧ (∀ (c d : Unit), uOi ((l, l_1, Int.ofNat a.length, 0, ()), ()) c d → Q (AV.bool true)) ∧ (∀ c d, uOh ((l, l_1, Int.ofNat a.length, 0, ()), ()) c d → Q (AV.bool c.1)) ∧ True)) := by kernel_rfl
def uIi : (List Int) × (List Int) × Unit → Prop := fun (a, b, ()) => a.length < 9223372036854775807
noncomputable def uOg : (List Int) × (List Int) × Unit → AV := fun (a, b, ()) => .bool (decide (a = b))
noncomputable def uSp : CallC := valC uSo uIi uOg
theorem eq32Val (a : List Int) (b : List Int) (hp : uIi (a, b, ())) : Val PP 146 (uSo.cells id (a, b, ())) (uOg (a, b, ())) := by
 refine Val.ofF mixed (KL_ok (cc_nil)) (freesC rfl _) (eq32Fn a b) ?_
 rw [ifp_ne]
 split
 ·rename_i h
  refine ⟨eq32Ok, trivial, trivial, a, Wk.refl _, b, Wk.refl _, (by trivial), ⟨0, rfl, rfl, Nat.zero_le _, hp, Int.ofNat.inj h, rfl⟩, fun _ _ hr => ?_, fun c _ hr => ?_, trivial⟩
  ·exact tells_bool (decide_eq_true (show a = b from hr)).symm
  ·obtain ⟨r, _⟩ := c
   obtain ⟨rfl, hr⟩ := hr
   exact tells_bool (decide_eq_false (show ¬ a = b from hr)).symm
 ·rename_i h
  exact tells_bool (decide_eq_false (show ¬ a = b from fun e => h (by rw [e]))).symm
theorem eq32Cc : CcOk PP 146 uSp := val_ok rfl (fun ⟨a, ⟨b, _⟩⟩ h => eq32Val a b h)
abbrev uQg := (List (List Int)) × Unit × (List (List Int)) × Int × Int × Unit
abbrev uD4 := uQg × (Unit)
noncomputable def uN9 : Tel uQg := .cons 1 (.lst Ell) (.cons 2 (.fnp 146 []) (.cons 15 (.lst Ell) (.ji 16 (.ji 17 (.nil)))))
noncomputable def uOe : BTel (Unit) := .nil
noncomputable def uOd : List (LForm uD4) := [⟨_, _, uN9, uOe, fun x y => (x, y)⟩]
noncomputable def uFx (R0 : uD4 → (Unit) → (Unit) → Prop) (R1 : uD4 → uBg → (Unit) → Prop) : List (Alt uD4) := [⟨.exit 0, Unit, Unit, .nil, .nil, R0⟩, ⟨.ret, Bool × Unit, Unit, .cons 6 (.bool) (.nil), .nil, R1⟩]
theorem eqf2Form (b a : List (List Int)) (n i : Int) (N : uD4 → Prop) (R0 : uD4 → (Unit) → (Unit) → Prop) (R1 : uD4 → uBg → (Unit) → Prop) : ((runW PP (KL [(146, uSp)] []) 100).code none 145 32 (loopBody PP 145 4) (mkT (uN9.av id (b, (), a, n, i, ()))) [] (stL false (uOe.obs id ())) (postL 0 uOd (uFx R0 R1) ((b, (), a, n, i, ()), ()) N)) = ( ifp (!leInt n i) (idxOk i a.length ∧ ∃ l' n_1 c x w e, nth ((natOf i).mul 1) (a.flatMap Ell.f) = some (AV.vs l' n_1 c x w e) ∧ idxOk i b.length ∧ ∃ (l'_1 : List AV), ∃ (n_2 : Nat), ∃ (c_1 : Nat), ∃ (x_1 : Bool), ∃ (w_1 : Option Nat), ∃ (e_1 : Nat), nth ((natOf i).mul 1) (b.flatMap Ell.f) = some (AV.vs l'_1 n_2 c_1 x_1 w_1 e_1) ∧ ∃ (l : List Int), Wk (AV.vs l' n_1 c x w e) (lst Ei32 l) ∧ ∃ (l_1 : List Int), Wk (AV.vs l'_1 n_2 c_1 x_1 w_1 e_1) (lst Ei32 l_1) ∧ uIi (l, l_1, ()) ∧ ifp (decide (l = l_1)) (True ∧ ∃ l, Wv Ell b l ∧ ∃ l_2, Wv Ell a l_2 ∧ true = true ∧ N ((l, (), l_2, n, wrapF .i64 (i.add 1), ()), ())) (True ∧ true = true ∧ R1 ((b, (), a, n, i, ()), ()) (false, ()) ())) (True ∧ true = true ∧ R0 ((b, (), a, n, i, ()), ()) () ())) := by kernel_rfl
def uIh : uD4 → Prop := fun ((b, (), a, n, i, ()), ()) => ∃ k : Nat, i = k ∧ n = a.length ∧ k ≤ a.length ∧ a.length < 9223372036854775807 ∧ a.length = b.length ∧ (∀ x ∈ a, x.length < 9223372036854775807) ∧ a.take k = b.take k
def uQ1 : uD4 → Nat := fun ((b, (), a, n, i, ()), ()) => a.length - i.toNat
def uOc : uD4 → (Unit) → (Unit) → Prop := fun ((b, (), a, n, i, ()), ()) _ _ => a = b
def uOb : uD4 → uBg → (Unit) → Prop := fun ((b, (), a, n, i, ()), ()) (r, _) _ => r = false ∧ a ≠ b
noncomputable def uSn : LoopC := loopC 0 uOd (uFx uOc uOb) uIh
theorem eqf2Step : stepsOk PP (KL [(146, uSp)] []) 100 145 32 (loopBody PP 145 4) 0 false uOd (uFx uOc uOb) uIh uQ1 ⟨_, _, uN9, uOe, fun x y => (x, y)⟩ := by
 intro x y hz
 obtain ⟨b, _, a, n, i, _⟩ := x
 obtain _ := y
 refine (eqf2Form b a n i _ _ _).mpr ?_
 obtain ⟨k, rfl, rfl, hk, hl, hab, hx, ht⟩ := hz
 rw [ifp_lt]
 simp only [natOf_nat]
 split
 ·rename_i h
  have hka : k < a.length := by simpa using h
  have hkb : k < b.length := by omega
  refine ⟨idx_ok hka, _, _, _, _, _, _, nth_lst hka, idx_ok hkb, _, _, _, _, _, _, nth_lst hkb, a[k], Wk.refl _, b[k], Wk.refl _, hx _ (List.getElem_mem hka), ?_⟩
  rw [ifp_if]
  split
  all_goals rename_i h2; simp only [decide_eq_true_eq] at h2
  ·rename_i h2
   refine ⟨trivial, b, Wk.refl _, a, Wk.refl _, (by trivial), ?_⟩
   rw [wsucc (by omega)]
   exact ⟨⟨k + 1, rfl, rfl, hka, hl, hab, hx, (by rw [← List.take_append_getElem hka, ← List.take_append_getElem hkb, ht, h2])⟩, by show a.length - (k + 1) < a.length - k; omega, fun _ _ h => h, fun _ _ h => h, trivial⟩
  ·rename_i h2
   exact ⟨trivial, (by trivial), rfl, fun e => h2 (by subst e; rfl)⟩
 ·rename_i h
  have hka : ¬ k < a.length := by simpa using h
  exact ⟨trivial, (by trivial), by rw [take_all hka, take_all (by omega)] at ht; exact ht⟩
theorem eqf2Ok : LoopOk PP 145 32 (.loop (loopBody PP 145 4)) (uSn) := loop_ok uQ1  mixed (KL_ok (cc_cons eq32Cc (cc_nil))) rfl (steps_cons eqf2Step (steps_nil))
noncomputable def uSl : Tel ((List (List Int)) × (List (List Int)) × Unit × Unit) := .cons 0 (.lst Ell) (.cons 1 (.lst Ell) (.cons 2 (.fnp 146 []) (.nil)))
theorem eqf2Fn (a b : List (List Int)) (Q : AV → Prop) : (callW PP (runW PP (KL [] [(145, [(4, uSn)])]) 200) 145 (uSl.cells id (a, b, (), ())) (stE false) (fun x st => frzW st x Q)) = ( ifp (!eqInt (Int.ofNat a.length) (Int.ofNat b.length)) (Q (AV.bool false)) (LoopOk PP 145 32 (loopBody PP 145 4).loop uSn ∧ True ∧ True ∧ ∃ l, Wv Ell b l ∧ ∃ l_1, Wv Ell a l_1 ∧ true = true ∧ uIh ((l, (), l_1, Int.ofNat a.length, 0, ()), ()) ∧ (∀ (c d : Unit), uOc ((l, (), l_1, Int.ofNat a.length, 0, ()), ()) c d → Q (AV.bool true)) ∧ (∀ c d, uOb ((l, (), l_1, Int.ofNat a.length, 0, ()), ()) c d → Q (AV.bool c.1)) ∧ True)) := by kernel_rfl
def uFw : (List (List Int)) × (List (List Int)) × Unit × Unit → Prop := fun (a, b, (), ()) => a.length < 9223372036854775807 ∧ ∀ x ∈ a, x.length < 9223372036854775807
noncomputable def uOa : (List (List Int)) × (List (List Int)) × Unit × Unit → AV := fun (a, b, (), ()) => .bool (decide (a = b))
noncomputable def uSm : CallC := valC uSl uFw uOa
theorem eqf2Val (a : List (List Int)) (b : List (List Int)) (hp : uFw (a, b, (), ())) : Val PP 145 (uSl.cells id (a, b, (), ())) (uOa (a, b, (), ())) := by
 refine Val.ofF mixed (KL_ok (cc_nil)) (freesC rfl _) (eqf2Fn a b) ?_
 rw [ifp_ne]
 split
 ·rename_i h
  refine ⟨eqf2Ok, trivial, trivial, b, Wk.refl _, a, Wk.refl _, (by trivial), ⟨0, rfl, rfl, Nat.zero_le _, hp.1, Int.ofNat.inj h, hp.2, rfl⟩, fun _ _ hr => ?_, fun c _ hr => ?_, trivial⟩
  ·exact tells_bool (decide_eq_true (show a = b from hr)).symm
  ·obtain ⟨r, _⟩ := c
   obtain ⟨rfl, hr⟩ := hr
   exact tells_bool (decide_eq_false (show ¬ a = b from hr)).symm
 ·rename_i h
  exact tells_bool (decide_eq_false (show ¬ a = b from fun e => h (by rw [e]))).symm
theorem uQ2 : CcOk PP 145 uSm := val_ok rfl (fun ⟨a, ⟨b, ⟨_, _⟩⟩⟩ h => eqf2Val a b h)
noncomputable def uS4 : Tel ((List (List Int)) × (List (List Int)) × Unit) := .cons 0 (.lst Ell) (.cons 1 (.lst Ell) (.nil))
theorem bks1Fn (a b : List (List Int)) (Q : AV → Prop) : (callW PP (runW PP (KL [(145, uSm)] []) 200) 214 (uS4.cells id (a, b, ())) (stE false) (fun x st => frzW st x Q)) = ( ∃ l, Wv Ell a l ∧ ∃ l_1, Wv Ell b l_1 ∧ uFw (l, l_1, (), ()) ∧ ifp (decide (l = l_1)) (Q (AV.bool true)) (Q (AV.bool false))) := by kernel_rfl
def uJn : (List (List Int)) × (List (List Int)) × Unit → Prop := fun (a, b, ()) => a.length < 9223372036854775807 ∧ ∀ x ∈ a, x.length < 9223372036854775807
noncomputable def uPc : (List (List Int)) × (List (List Int)) × Unit → AV := fun (a, b, ()) => .bool (decide (a = b))
noncomputable def uS5 : CallC := valC uS4 uJn uPc
theorem bks1Val (a : List (List Int)) (b : List (List Int)) (hp : uJn (a, b, ())) : Val PP 214 (uS4.cells id (a, b, ())) (uPc (a, b, ())) := by
 refine Val.ofF mixed (KL_ok (cc_cons uQ2 (cc_nil))) (freesC rfl _) (bks1Fn a b) ?_
 refine ⟨a, Wk.refl _, b, Wk.refl _, hp, ?_⟩
 by_cases h : a = b
 ·rw [ifp_pos (decide_eq_true h)]; exact tells_bool (decide_eq_true h).symm
 ·rw [ifp_neg (decide_eq_false h)]; exact tells_bool (decide_eq_false h).symm
theorem bks1Cc : CcOk PP 214 uS5 := val_ok rfl (fun ⟨a, ⟨b, _⟩⟩ h => bks1Val a b h)
abbrev uQh := (List (List (List Int))) × Unit × (List (List (List Int))) × Int × Int × Unit
abbrev uD3 := uQh × (Unit)
noncomputable def uN4 : Tel uQh := .cons 1 (.lst Ecs) (.cons 2 (.fnp 214 []) (.cons 15 (.lst Ecs) (.ji 16 (.ji 17 (.nil)))))
noncomputable def uN8 : BTel (Unit) := .nil
noncomputable def uN7 : List (LForm uD3) := [⟨_, _, uN4, uN8, fun x y => (x, y)⟩]
noncomputable def uFv (R0 : uD3 → (Unit) → (Unit) → Prop) (R1 : uD3 → uBg → (Unit) → Prop) : List (Alt uD3) := [⟨.exit 0, Unit, Unit, .nil, .nil, R0⟩, ⟨.ret, Bool × Unit, Unit, .cons 6 (.bool) (.nil), .nil, R1⟩]
theorem eqf3Form (b : List (List (List Int))) (a : List (List (List Int))) (n i : Int) (N : uD3 → Prop) (R0 : uD3 → (Unit) → (Unit) → Prop) (R1 : uD3 → uBg → (Unit) → Prop) : ((runW PP (KL [(214, uS5)] []) 100).code none 213 32 (loopBody PP 213 4) (mkT (uN4.av id (b, (), a, n, i, ()))) [] (stL false (uN8.obs id ())) (postL 0 uN7 (uFv R0 R1) ((b, (), a, n, i, ()), ()) N)) = ( ifp (!leInt n i) (idxOk i a.length ∧ ∃ l' n_1 c x w e, nth ((natOf i).mul 1) (a.flatMap Ecs.f) = some (AV.vs l' n_1 c x w e) ∧ idxOk i b.length ∧ ∃ (l'_1 : List AV), ∃ (n_2 : Nat), ∃ (c_1 : Nat), ∃ (x_1 : Bool), ∃ (w_1 : Option Nat), ∃ (e_1 : Nat), nth ((natOf i).mul 1) (b.flatMap Ecs.f) = some (AV.vs l'_1 n_2 c_1 x_1 w_1 e_1) ∧ ∃ (l : List (List Int)), Wk (AV.vs l' n_1 c x w e) (lst Ell l) ∧ ∃ (l_1 : List (List Int)), Wk (AV.vs l'_1 n_2 c_1 x_1 w_1 e_1) (lst Ell l_1) ∧ uJn (l, l_1, ()) ∧ ifp (decide (l = l_1)) (True ∧ ∃ l, Wv Ecs b l ∧ ∃ l_2, Wv Ecs a l_2 ∧ true = true ∧ N ((l, (), l_2, n, wrapF .i64 (i.add 1), ()), ())) (True ∧ true = true ∧ R1 ((b, (), a, n, i, ()), ()) (false, ()) ())) (True ∧ true = true ∧ R0 ((b, (), a, n, i, ()), ()) () ())) := by kernel_rfl
def uIg : uD3 → Prop := fun ((b, (), a, n, i, ()), ()) => ∃ k : Nat, i = k ∧ n = a.length ∧ k ≤ a.length ∧ a.length < 9223372036854775807 ∧ a.length = b.length ∧ (∀ y ∈ a, y.length < 9223372036854775807 ∧ ∀ x ∈ y, x.length < 9223372036854775807) ∧ a.take k = b.take k
def uQ0 : uD3 → Nat := fun ((b, (), a, n, i, ()), ()) => a.length - i.toNat
def uN6 : uD3 → (Unit) → (Unit) → Prop := fun ((b, (), a, n, i, ()), ()) _ _ => a = b
def uN5 : uD3 → uBg → (Unit) → Prop := fun ((b, (), a, n, i, ()), ()) (r, _) _ => r = false ∧ a ≠ b
noncomputable def uSk : LoopC := loopC 0 uN7 (uFv uN6 uN5) uIg
theorem eqf3Step : stepsOk PP (KL [(214, uS5)] []) 100 213 32 (loopBody PP 213 4) 0 false uN7 (uFv uN6 uN5) uIg uQ0 ⟨_, _, uN4, uN8, fun x y => (x, y)⟩ := by
 intro x y hz
 obtain ⟨b, _, a, n, i, _⟩ := x
 obtain _ := y
 refine (eqf3Form b a n i _ _ _).mpr ?_
 obtain ⟨k, rfl, rfl, hk, hl, hab, hx, ht⟩ := hz
 rw [ifp_lt]
 simp only [natOf_nat]
 split
 ·rename_i h
  have hka : k < a.length := by simpa using h
  have hkb : k < b.length := by omega
  refine ⟨idx_ok hka, _, _, _, _, _, _, nth_lst hka, idx_ok hkb, _, _, _, _, _, _, nth_lst hkb, a[k], Wk.refl _, b[k], Wk.refl _, hx _ (List.getElem_mem hka), ?_⟩
  rw [ifp_if]
  split
  all_goals rename_i h2; simp only [decide_eq_true_eq] at h2
  ·rename_i h2
   refine ⟨trivial, b, Wk.refl _, a, Wk.refl _, (by trivial), ?_⟩
   rw [wsucc (by omega)]
   exact ⟨⟨k + 1, rfl, rfl, hka, hl, hab, hx, (by rw [← List.take_append_getElem hka, ← List.take_append_getElem hkb, ht, h2])⟩, by show a.length - (k + 1) < a.length - k; omega, fun _ _ h => h, fun _ _ h => h, trivial⟩
  ·rename_i h2
   exact ⟨trivial, (by trivial), rfl, fun e => h2 (by subst e; rfl)⟩
 ·rename_i h
  have hka : ¬ k < a.length := by simpa using h
  exact ⟨trivial, (by trivial), by rw [take_all hka, take_all (by omega)] at ht; exact ht⟩
theorem eqf3Ok : LoopOk PP 213 32 (.loop (loopBody PP 213 4)) (uSk) := loop_ok uQ0  mixed (KL_ok (cc_cons bks1Cc (cc_nil))) rfl (steps_cons eqf3Step (steps_nil))
noncomputable def uJm : Tel (Bk × Bk × Unit) := .cons 0 (.aggW Ebk) (.cons 1 (.aggW Ebk) (.nil))
theorem bksameFn (a b : Bk) (Q : AV → Prop) : (callW PP (runW PP (KL [] [(213, [(4, uSk)])]) 200) 147 (uJm.cells id (a, b, ())) (stE false) (fun x st => frzW st x Q)) = ( ifp (!eqInt (Int.ofNat a.1.length) (Int.ofNat b.1.length)) (Q (AV.bool false)) (LoopOk PP 213 32 (loopBody PP 213 4).loop uSk ∧ True ∧ True ∧ ∃ l, Wv Ecs b.1 l ∧ ∃ l_1, Wv Ecs a.1 l_1 ∧ true = true ∧ uIg ((l, (), l_1, Int.ofNat a.1.length, 0, ()), ()) ∧ (∀ (c d : Unit), uN6 ((l, (), l_1, Int.ofNat a.1.length, 0, ()), ()) c d → Q (AV.bool true)) ∧ (∀ c d, uN5 ((l, (), l_1, Int.ofNat a.1.length, 0, ()), ()) c d → ifp c.1 (Q (AV.bool true)) (Q (AV.bool false))) ∧ True)) := by kernel_rfl
def uEj : Bk × Bk × Unit → Prop := fun (a, b, ()) => a.1.length < 9223372036854775807 ∧ ∀ y ∈ a.1, y.length < 9223372036854775807 ∧ ∀ x ∈ y, x.length < 9223372036854775807
noncomputable def uHd : Bk × Bk × Unit → AV := fun (a, b, ()) => .bool (decide (a.1 = b.1))
noncomputable def uPb : CallC := valC uJm uEj uHd
theorem bksameVal (a : Bk) (b : Bk) (hp : uEj (a, b, ())) : Val PP 147 (uJm.cells id (a, b, ())) (uHd (a, b, ())) := by
 refine Val.ofF mixed (KL_ok (cc_nil)) (freesC rfl _) (bksameFn a b) ?_
 obtain ⟨h1, h2⟩ := hp
 rw [ifp_ne]
 split
 ·rename_i h
  refine ⟨eqf3Ok, trivial, trivial, b.1, Wk.refl _, a.1, Wk.refl _, (by trivial), ⟨0, rfl, rfl, Nat.zero_le _, h1, Int.ofNat.inj h, h2, rfl⟩, fun _ _ hr => ?_, fun c _ hr => ?_, trivial⟩
  ·exact tells_bool (decide_eq_true (show a.1 = b.1 from hr)).symm
  ·obtain ⟨r, _⟩ := c
   obtain ⟨rfl, hr⟩ := hr
   rw [ifp_neg rfl]
   exact tells_bool (decide_eq_false (show ¬ a.1 = b.1 from hr)).symm
 ·rename_i h
  exact tells_bool (decide_eq_false (show ¬ a.1 = b.1 from fun e => h (by rw [e]))).symm
theorem bksameCc : CcOk PP 147 uPb := val_ok rfl (fun ⟨a, ⟨b, _⟩⟩ h => bksameVal a b h)
noncomputable def uHh : Tel (Tn × Tn × Unit) := .cons 0 (.aggW Etr) (.cons 1 (.aggW Etr) (.nil))
theorem sameTrFn (a b : Tn) (Q : AV → Prop) : (callW PP (runW PP (KL [(145, uSm), (147, uPb)] []) 200) 66 (uHh.cells id (a, b, ())) (stE false) (fun x st => frzW st x Q)) = ( ∃ l, Wv Ell a.1 l ∧ ∃ l_1, Wv Ell b.1 l_1 ∧ uFw (l, l_1, (), ()) ∧ ifp (decide (l = l_1)) (∃ (a_1 : Bk), WkL [AV.vs (List.flatMap Ecs.f a.2.1) a.2.1.length a.2.1.length false none 1] (Ebk.f a_1) ∧ ∃ (a : Bk), WkL [AV.vs (List.flatMap Ecs.f b.2.1) b.2.1.length b.2.1.length false none 1] (Ebk.f a) ∧ uEj (a_1, a, ()) ∧ ifp (decide (a_1.1 = a.1)) (Q (AV.bool true)) (Q (AV.bool false))) (Q (AV.bool false))) := by kernel_rfl
def uDi : Tn × Tn × Unit → Prop := fun (a, b, ()) => a.1.length < 9223372036854775807 ∧ (∀ x ∈ a.1, x.length < 9223372036854775807) ∧ a.2.1.length < 9223372036854775807 ∧ ∀ y ∈ a.2.1, y.length < 9223372036854775807 ∧ ∀ x ∈ y, x.length < 9223372036854775807
noncomputable def uGt : Tn × Tn × Unit → AV := fun (a, b, ()) => .bool (decide (a.1 = b.1 ∧ a.2.1 = b.2.1))
noncomputable def uLv : CallC := valC uHh uDi uGt
theorem sameTrVal (a : Tn) (b : Tn) (hp : uDi (a, b, ())) : Val PP 66 (uHh.cells id (a, b, ())) (uGt (a, b, ())) := by
 refine Val.ofF mixed (KL_ok (cc_cons uQ2 (cc_cons bksameCc (cc_nil)))) (freesC rfl _) (sameTrFn a b) ?_
 obtain ⟨h1, h2, h3⟩ := hp
 refine ⟨a.1, Wk.refl _, b.1, Wk.refl _, ⟨h1, h2⟩, ?_⟩
 by_cases h : a.1 = b.1
 ·rw [ifp_pos (decide_eq_true h)]
  refine ⟨(a.2.1, ()), WkL.refl _, (b.2.1, ()), WkL.refl _, h3, ?_⟩
  dsimp only
  by_cases h5 : a.2.1 = b.2.1
  ·rw [ifp_pos (decide_eq_true h5)]; exact tells_bool (decide_eq_true (show _ ∧ _ from ⟨h, h5⟩)).symm
  ·rw [ifp_neg (decide_eq_false h5)]; exact tells_bool (decide_eq_false (show ¬ (a.1 = b.1 ∧ a.2.1 = b.2.1) from fun e => h5 e.2)).symm
 ·rw [ifp_neg (decide_eq_false h)]; exact tells_bool (decide_eq_false (show ¬ (a.1 = b.1 ∧ a.2.1 = b.2.1) from fun e => h e.1)).symm
theorem sameTrCc : CcOk PP 66 uLv := val_ok rfl (fun ⟨a, ⟨b, _⟩⟩ h => sameTrVal a b h)
abbrev uKg := (List (List (List Int))) × Unit
abbrev kbkZ := (Unit × Unit × Int × Unit) × (uKg × uKg × Unit)
noncomputable def uR8 : Tel (Unit × Unit × Int × Unit) := .cons 2 (.ptr 0) (.cons 3 (.ptr 1) (.ji 5 (.nil)))
noncomputable def uSc : BTel (uKg × uKg × Unit) := .cons (.row (.cons 0 (.lst Ecs) (.nil))) (.cons (.row (.cons 0 (.lst Ecs) (.nil))) (.nil))
noncomputable def uSb : List (LForm kbkZ) := [⟨_, _, uR8, uSc, fun x y => (x, y)⟩]
noncomputable def uH6 (R0 : kbkZ → (Unit) → (Unit) → Prop) (R1 : kbkZ → uBg → (Unit) → Prop) : List (Alt kbkZ) := [⟨.exit 0, Unit, Unit, .nil, .nil, R0⟩, ⟨.ret, Bool × Unit, Unit, .cons 4 (.bool) (.nil), .nil, R1⟩]
theorem kbkForm (i : Int) (a : List (List (List Int))) (b : List (List (List Int))) (N : kbkZ → Prop) (R0 : kbkZ → (Unit) → (Unit) → Prop) (R1 : kbkZ → uBg → (Unit) → Prop) : ((runW PP (KL [(112, uK2)] []) 100).code none 113 32 (loopBody PP 113 4) (mkT (uR8.av id ((), (), i, ()))) [] (stL false (uSc.obs id ((a, ()), (b, ()), ()))) (postL 0 uSb (uH6 R0 R1) (((), (), i, ()), (a, ()), (b, ()), ()) N)) = ( ifp (!leInt (Int.ofNat a.length) i) (idxOk i a.length ∧ ∃ l' n c x w e, nth ((natOf i).mul 1) (a.flatMap Ecs.f) = some (AV.vs l' n c x w e) ∧ idxOk i b.length ∧ ∃ (l'_1 : List AV), ∃ (n_1 : Nat), ∃ (c_1 : Nat), ∃ (x_1 : Bool), ∃ (w_1 : Option Nat), ∃ (e_1 : Nat), nth ((natOf i).mul 1) (b.flatMap Ecs.f) = some (AV.vs l'_1 n_1 c_1 x_1 w_1 e_1) ∧ ∃ (l : List (List Int)), Wk (AV.vs l' n c x w e) (lst Ell l) ∧ ∃ (l_1 : List (List Int)), Wk (AV.vs l'_1 n_1 c_1 x_1 w_1 e_1) (lst Ell l_1) ∧ uC9 (l, l_1, ()) ∧ ifp (decide (l = l_1)) (T5 <| ∃ l, Wv Ecs a l ∧ ∃ l_2, Wv Ecs b l_2 ∧ true = true ∧ N (((), (), wrapF .i64 (i.add 1), ()), (l, ()), (l_2, ()), ())) (T5 <| true = true ∧ R1 (((), (), i, ()), (a, ()), (b, ()), ()) (false, ()) ())) (True ∧ true = true ∧ R0 (((), (), i, ()), (a, ()), (b, ()), ()) () ())) := by kernel_rfl
def uM3 : kbkZ → Prop := fun (((), (), i, ()), (a, ()), (b, ()), ()) => ∃ k : Nat, i = k ∧ k ≤ a.length ∧ a.length < 9223372036854775807 ∧ a.length = b.length ∧ (∀ y ∈ a, y.length < 9223372036854775807 ∧ ∀ x ∈ y, x.length < 9223372036854775807) ∧ a.take k = b.take k
def uTu : kbkZ → Nat := fun (((), (), i, ()), (a, ()), (b, ()), ()) => a.length - i.toNat
def uSa : kbkZ → (Unit) → (Unit) → Prop := fun (((), (), i, ()), (a, ()), (b, ()), ()) _ _ => a = b
def uR9 : kbkZ → uBg → (Unit) → Prop := fun (((), (), i, ()), (a, ()), (b, ()), ()) (r, _) _ => r = false ∧ a ≠ b
noncomputable def kbkC : LoopC := loopC 0 uSb (uH6 uSa uR9) uM3
theorem kbkStep : stepsOk PP (KL [(112, uK2)] []) 100 113 32 (loopBody PP 113 4) 0 false uSb (uH6 uSa uR9) uM3 uTu ⟨_, _, uR8, uSc, fun x y => (x, y)⟩ := by
 intro x y hz
 obtain ⟨_, _, i, _⟩ := x
 obtain ⟨⟨a, _⟩, ⟨b, _⟩, _⟩ := y
 refine (kbkForm i a b _ _ _).mpr ?_
 obtain ⟨k, rfl, hk, hl, hab, hx, ht⟩ := hz
 rw [ifp_lt]
 simp only [natOf_nat]
 split
 ·rename_i h
  have hka : k < a.length := by simpa using h
  have hkb : k < b.length := by omega
  refine ⟨idx_ok hka, _, _, _, _, _, _, nth_lst hka, idx_ok hkb, _, _, _, _, _, _, nth_lst hkb, a[k], Wk.refl _, b[k], Wk.refl _, hx _ (List.getElem_mem hka), ?_⟩
  rw [ifp_if]
  split
  all_goals rename_i h2; simp only [decide_eq_true_eq] at h2
  ·rename_i h2
   refine ⟨trivial, trivial, trivial, trivial, trivial, a, Wk.refl _, b, Wk.refl _, (by trivial), ?_⟩
   rw [wsucc (by omega)]
   exact ⟨⟨k + 1, rfl, hka, hl, hab, hx, (by rw [← List.take_append_getElem hka, ← List.take_append_getElem hkb, ht, h2])⟩, by show a.length - (k + 1) < a.length - k; omega, fun _ _ h => h, fun _ _ h => h, trivial⟩
  ·rename_i h2
   exact ⟨trivial, trivial, trivial, trivial, trivial, (by trivial), rfl, fun e => h2 (by subst e; rfl)⟩
 ·rename_i h
  have hka : ¬ k < a.length := by simpa using h
  exact ⟨trivial, (by trivial), by rw [take_all hka, take_all (by omega)] at ht; exact ht⟩
theorem kbkOk : LoopOk PP 113 32 (.loop (loopBody PP 113 4)) (kbkC) := loop_ok uTu  mixed (KL_ok (cc_cons uMv (cc_nil))) rfl (steps_cons kbkStep (steps_nil))
noncomputable def kbkT : Tel (Bk × Bk × Unit) := .cons 0 (.aggW Ebk) (.cons 1 (.aggW Ebk) (.nil))
theorem kbkFn (a b : Bk) (Q : AV → Prop) : (callW PP (runW PP (KL [] [(113, [(4, kbkC)])]) 200) 113 (kbkT.cells id (a, b, ())) (stE false) (fun x st => frzW st x Q)) = ( ifp (!eqInt (Int.ofNat a.1.length) (Int.ofNat b.1.length)) (Q (AV.bool false)) (LoopOk PP 113 32 (loopBody PP 113 4).loop kbkC ∧ True ∧ True ∧ ∃ l, Wv Ecs a.1 l ∧ ∃ l_1, Wv Ecs b.1 l_1 ∧ true = true ∧ uM3 (((), (), 0, ()), (l, ()), (l_1, ()), ()) ∧ (∀ (c d : Unit), uSa (((), (), 0, ()), (l, ()), (l_1, ()), ()) c d → Q (AV.bool true)) ∧ (∀ c d, uR9 (((), (), 0, ()), (l, ()), (l_1, ()), ()) c d → Q (AV.bool c.1)) ∧ True)) := by kernel_rfl
def uM2 : Bk × Bk × Unit → Prop := fun (a, b, ()) => a.1.length < 9223372036854775807 ∧ ∀ y ∈ a.1, y.length < 9223372036854775807 ∧ ∀ x ∈ y, x.length < 9223372036854775807
noncomputable def uQo : Bk × Bk × Unit → AV := fun (a, b, ()) => .bool (decide (a.1 = b.1))
noncomputable def kbkK : CallC := valC kbkT uM2 uQo
theorem kbkVal (a : Bk) (b : Bk) (hp : uM2 (a, b, ())) : Val PP 113 (kbkT.cells id (a, b, ())) (uQo (a, b, ())) := by
 refine Val.ofF mixed (KL_ok (cc_nil)) (freesC rfl _) (kbkFn a b) ?_
 obtain ⟨h1, h2⟩ := hp
 rw [ifp_ne]
 split
 ·rename_i h
  refine ⟨kbkOk, trivial, trivial, a.1, Wk.refl _, b.1, Wk.refl _, (by trivial), ⟨0, rfl, Nat.zero_le _, h1, Int.ofNat.inj h, h2, rfl⟩, fun _ _ hr => ?_, fun c _ hr => ?_, trivial⟩
  ·exact tells_bool (decide_eq_true (show a.1 = b.1 from hr)).symm
  ·obtain ⟨r, _⟩ := c
   obtain ⟨rfl, hr⟩ := hr
   exact tells_bool (decide_eq_false (show ¬ a.1 = b.1 from hr)).symm
 ·rename_i h
  exact tells_bool (decide_eq_false (show ¬ a.1 = b.1 from fun e => h (by rw [e]))).symm
theorem kbkCc : CcOk PP 113 kbkK := val_ok rfl (fun ⟨a, ⟨b, _⟩⟩ h => kbkVal a b h)
noncomputable def ktrT : Tel (Tn × Tn × Unit) := .cons 0 (.aggW Etr) (.cons 1 (.aggW Etr) (.nil))
theorem ktrFn (a b : Tn) (Q : AV → Prop) : (callW PP (runW PP (KL [(112, uK2), (113, kbkK)] []) 200) 47 (ktrT.cells id (a, b, ())) (stE false) (fun x st => frzW st x Q)) = ( ∃ l, Wv Ell a.1 l ∧ ∃ l_1, Wv Ell b.1 l_1 ∧ uC9 (l, l_1, ()) ∧ ifp (decide (l = l_1)) (∃ (a_1 : Bk), WkL [AV.vs (List.flatMap Ecs.f a.2.1) a.2.1.length a.2.1.length false none 1] (Ebk.f a_1) ∧ ∃ (a : Bk), WkL [AV.vs (List.flatMap Ecs.f b.2.1) b.2.1.length b.2.1.length false none 1] (Ebk.f a) ∧ uM2 (a_1, a, ()) ∧ ifp (decide (a_1.1 = a.1)) (Q (AV.bool true)) (Q (AV.bool false))) (Q (AV.bool false))) := by kernel_rfl
def uM1 : Tn × Tn × Unit → Prop := fun (a, b, ()) => a.1.length < 9223372036854775807 ∧ (∀ x ∈ a.1, x.length < 9223372036854775807) ∧ a.2.1.length < 9223372036854775807 ∧ ∀ y ∈ a.2.1, y.length < 9223372036854775807 ∧ ∀ x ∈ y, x.length < 9223372036854775807
noncomputable def uQn : Tn × Tn × Unit → AV := fun (a, b, ()) => .bool (decide (a.1 = b.1 ∧ a.2.1 = b.2.1))
noncomputable def ktrK : CallC := valC ktrT uM1 uQn
theorem ktrVal (a : Tn) (b : Tn) (hp : uM1 (a, b, ())) : Val PP 47 (ktrT.cells id (a, b, ())) (uQn (a, b, ())) := by
 refine Val.ofF mixed (KL_ok (cc_cons uMv (cc_cons kbkCc (cc_nil)))) (freesC rfl _) (ktrFn a b) ?_
 obtain ⟨h1, h2, h3⟩ := hp
 refine ⟨a.1, Wk.refl _, b.1, Wk.refl _, ⟨h1, h2⟩, ?_⟩
 by_cases h : a.1 = b.1
 ·rw [ifp_pos (decide_eq_true h)]
  refine ⟨(a.2.1, ()), WkL.refl _, (b.2.1, ()), WkL.refl _, h3, ?_⟩
  dsimp only
  by_cases h5 : a.2.1 = b.2.1
  ·rw [ifp_pos (decide_eq_true h5)]; exact tells_bool (decide_eq_true (show _ ∧ _ from ⟨h, h5⟩)).symm
  ·rw [ifp_neg (decide_eq_false h5)]; exact tells_bool (decide_eq_false (show ¬ (a.1 = b.1 ∧ a.2.1 = b.2.1) from fun e => h5 e.2)).symm
 ·rw [ifp_neg (decide_eq_false h)]; exact tells_bool (decide_eq_false (show ¬ (a.1 = b.1 ∧ a.2.1 = b.2.1) from fun e => h e.1)).symm
theorem ktrCc : CcOk PP 47 ktrK := val_ok rfl (fun ⟨a, ⟨b, _⟩⟩ h => ktrVal a b h)
end Go.Proofs.YtcnnjlhecndhnaaGreat
namespace Go.Proofs.YtcnnjlhecndhnaaGreat
open Go.Det Go.RowKit
set_option maxRecDepth 100000
theorem lives19Ran : answersTrue ((run PP 1000).call 7 [] st0) = true := by kernel_rfl
noncomputable def uK0 : CallC := valC .nil (fun _ => True) (fun _ => .bool true)
theorem lives19Cc : CcOk PP 7 uK0 := val_ok rfl fun _ _ st => CallS.closed_ran mixed lives19Ran st
abbrev Tnn := List (List Int) × Bk × Unit
abbrev Etn : Enc Tnn := Enc.pair Ecs (Enc.pair Ebk Enc.unit)
abbrev uLo := ((List Int) × Unit) × (Unit)
noncomputable def uRz : Tel ((List Int) × Unit) := .cons 0 (.lst Eu8) (.nil)
noncomputable def uMo : BTel (Unit) := .nil
abbrev uBc := (List Int) × Unit
noncomputable def uHp (R0 : uLo → uBc → (Unit × Unit) → Prop) : List (Res uLo) := [⟨(List Int) × Unit, Unit × Unit, .cons 0 (.own Eu8 0) (.nil), .cons (.spare) (.nil), R0⟩]
theorem own8Fn (l : List Int) (R0 : uLo → uBc → (Unit × Unit) → Prop) : (callW PP (runW PP (KL [] []) 200) 62 (uRz.cells id (l, ())) (stL true (uMo.obs id ())) (fun v st => resAny 0 ((l, ()), ()) v st (uHp R0))) = ( (l.flatMap Eu8.f).length = l.length.mul 1 ∧ ifp (allScalar (l.flatMap Eu8.f) && true) (ifp (roomy (Nat.add 0 l.length) 1) (∃ (l_1 : List Int), (WkL ([] ++ l.flatMap Eu8.f) (l_1.flatMap Eu8.f) ∧ Nat.add 0 l.length = l_1.length ∧ 1 = 1) ∧ true = true ∧ R0 ((l, ()), ()) (l_1, ()) ((), ())) False) False) := by kernel_rfl
def uHq : uLo → Prop := fun ((l, ()), ()) => l.length ≤ 1000000
def uMn : uLo → uBc → (Unit × Unit) → Prop := fun ((l, ()), ()) (r, _) _ => r = l
noncomputable def uTp : CallC := callC 0 uRz uMo uHq (uHp uMn)
theorem own8Step (z : uLo) (hp : uHq z) : callW PP (runW PP (KL [] []) 200) 62 (uRz.cells id z.1) (stL true (uMo.obs id z.2)) (fun v st => resAny 0 z v st (uHp uMn)) := by
 obtain ⟨⟨l, _⟩, _⟩ := z
 refine (own8Fn l _).mpr ?_
 have hp' : l.length ≤ 1000000 := hp
 refine ⟨Enc.flen Eu8 l, ?_⟩
 rw [ifp_pos (by rw [Enc.fscal Eu8]; rfl), ifp_pos (roomy_small (by simp only [Nat.add_eq]; omega) (by decide))]
 exact ⟨l, ⟨WkL.refl _, by show 0 + l.length = _; omega, (by trivial)⟩, (by trivial), rfl⟩
theorem own8Cc : CcOk PP 62 uTp := call_ok mixed (KL_ok (cc_nil)) rfl own8Step
theorem ofV_put4 (x : Int) : ofV (putV (u64 x) 4) = x % 4294967296 := by
 have h : putV (u64 x) 4 = [u64 x / 256 ^ 0 % 256, u64 x / 256 ^ 1 % 256, u64 x / 256 ^ 2 % 256, u64 x / 256 ^ 3 % 256] := rfl
 rw [h]
 have e1 : (256 : Int) ^ 0 = 1 := rfl
 have e2 : (256 : Int) ^ 1 = 256 := rfl
 have e3 : (256 : Int) ^ 2 = 65536 := rfl
 have e4 : (256 : Int) ^ 3 = 16777216 := rfl
 simp only [ofV, e1, e2, e3, e4, u64]
 omega
theorem uKz (x : Int) : ofB (putV (u64 x) 4) = x % 4294967296 := by
 rw [ofB, List.take_of_length_le (by rw [uAr]; decide), ofV_put4]
theorem uKd {x : Int} (h : -2147483648 ≤ x ∧ x < 2147483648) : s32 (x % 4294967296) = x := by
 unfold s32; split <;> omega
theorem uGz : ∀ (l : List Int) (k : Nat), (l.flatMap fun x => putV (u64 x) 4).drop (k * 4) = (l.drop k).flatMap fun x => putV (u64 x) 4
 | [], k => by simp
 | a :: l, 0 => by simp
 | a :: l, k + 1 => by
  rw [List.flatMap_cons, List.drop_succ_cons, ← uGz l k, show (k + 1) * 4 = 4 + k * 4 by omega, ← List.drop_drop]
  rw [List.drop_left' (by rw [uAr])]
theorem puts_chunk {l : List Int} {k : Nat} (h : k < l.length) : uAc 4 (l.flatMap fun x => putV (u64 x) 4) k = putV (u64 l[k]) 4 := by
 rw [uAc, uGz, drop_get h, List.flatMap_cons, List.take_left' (by rw [uAr])]
theorem puts_num {l : List Int} (h : ∀ x ∈ l, -2147483648 ≤ x ∧ x < 2147483648) : (List.range l.length).map (num4 (l.flatMap fun x => putV (u64 x) 4)) = l := by
 refine List.ext_getElem (by simp) fun i h1 h2 => ?_
 simp only [List.getElem_map, List.getElem_range, num4]
 rw [puts_chunk h2, uKz, uKd (h _ (List.getElem_mem h2))]
theorem uFt {c : List (List Int)} {d : Nat} (h : ∀ x ∈ c, x.length = d) : c.flatten.length = c.length * d := by
 induction c with
 | nil => simp
 | cons a c ih => rw [List.flatten_cons, List.length_append, ih (fun x hx => h x (by simp [hx])), h a (by simp), List.length_cons, Nat.succ_mul]; omega
theorem uG7 {d : Nat} : ∀ {c : List (List Int)} (h : ∀ x ∈ c, x.length = d) (k : Nat), c.flatten.drop (k * d) = (c.drop k).flatten
 | [], h, k => by simp
 | a :: c, h, 0 => by simp
 | a :: c, h, k + 1 => by
  rw [List.flatten_cons, List.drop_succ_cons, ← uG7 (fun x hx => h x (by simp [hx])) k, show (k + 1) * d = d + k * d by rw [Nat.succ_mul]; omega, ← List.drop_drop]
  rw [List.drop_left' (h a (by simp))]
theorem flat_chunks {c : List (List Int)} {d : Nat} (h : ∀ x ∈ c, x.length = d) : (List.range c.length).map (uAc d c.flatten) = c := by
 refine List.ext_getElem (by simp) fun i h1 h2 => ?_
 simp only [List.getElem_map, List.getElem_range, uAc]
 rw [uG7 h, drop_get h2, List.flatten_cons, List.take_left' (h _ (List.getElem_mem h2))]
theorem bytesV_ok (c : List (List Int)) : uAe (uAb c) := by
 intro x hx
 unfold uAb at hx
 split at hx
 ·obtain ⟨y, _, hy⟩ := List.mem_flatMap.1 hx
  simp only [putV, List.mem_map] at hy
  obtain ⟨i, _, rfl⟩ := hy
  omega
 ·simp at hx
theorem uQ4 {c : List (List Int)} (h : uAk c = 0) : ∃ d : Nat, (∀ x ∈ c, x.length = d) ∧ 1 ≤ d ∧ d ≤ 1024 ∧ 1 ≤ c.length ∧ c.length ≤ 4096 ∧ (c.headD []).length = d := by
 obtain ⟨h1, h2, h3, h4⟩ := uA3 h
 cases c with
 | nil => simp at h1
 | cons a c =>
  have := uCt (h3 a (by simp))
  exact ⟨a.length, fun x hx => h4 x hx, this.1, this.2.1, h1, h2, rfl⟩
theorem uE1 {c : List (List Int)} (h : uAk c = 0) {d : Nat} (hd : ∀ x ∈ c, x.length = d) : (uAb c).length = c.length * d * 4 := by
 rw [uAb, if_pos h, uAq, uFt hd]
theorem uGw {c : List (List Int)} (h : uAk c = 0) {d : Nat} (hd : ∀ x ∈ c, x.length = d) : uEn (uAb c) c.length d = c := by
 obtain ⟨_, _, h3, _⟩ := uA3 h
 have e : uAb c = c.flatten.flatMap fun x => putV (u64 x) 4 := by rw [uAb, if_pos h]
 rw [uEn, e, ← uFt hd, puts_num (uDg h3), flat_chunks hd]
theorem read_whole {c : List (List Int)} (h : uAk c = 0) {d : Nat} (hd : ∀ x ∈ c, x.length = d) (h1 : 1 ≤ d) (h2 : d ≤ 1024) : uAy (uAb c) (c.length : Nat) (d : Nat) = (c, 0) := by
 obtain ⟨a1, a2, _, _⟩ := uA3 h
 rw [uAy, if_neg (by omega), if_neg (by rw [uE1 h hd]; simp)]
 show (if uAk (uEn (uAb c) c.length d) = 0 then _ else _) = _
 rw [uGw h hd, if_pos h]
 show (uEn (uAb c) c.length d, (0 : Int)) = _
 rw [uGw h hd]
theorem uEy {l : List (List Int)} {m n : Nat} (h : uAn l m n = true) : l.length ≤ m ∧ ∀ x ∈ l, x.length ≤ n := by
 simp only [uAn, Bool.and_eq_true, decide_eq_true_eq, List.all_eq_true] at h
 exact ⟨by omega, fun x hx => by have := h.2 x hx; omega⟩
abbrev uAz (l : List Int) : List Int := l.flatMap fun x => putV (u64 x) 4
def I32 (l : List Int) : Prop := ∀ x ∈ l, -2147483648 ≤ x ∧ x < 2147483648
theorem uG2 : ∀ (v rest : List Int), I32 v → nums (uAz v ++ rest) v.length = v
 | [], rest, _ => rfl
 | a :: v, rest, h => by
  have e : uAz (a :: v) ++ rest = putV (u64 a) 4 ++ (uAz v ++ rest) := by simp [uAz]
  rw [e, List.length_cons, nums, List.take_left' (by rw [uAr]), List.drop_left' (by rw [uAr]), uKz, uKd (h a (by simp)), uG2 v rest (fun x hx => h x (by simp [hx]))]
theorem uGr {w : Nat} : ∀ (l : List (List Int)) (rest : List Int), (∀ v ∈ l, v.length = w ∧ I32 v) → vecs w (uAz l.flatten ++ rest) l.length = l
 | [], rest, _ => rfl
 | a :: l, rest, h => by
  obtain ⟨h1, h2⟩ := h a (by simp)
  have e : uAz (a :: l).flatten ++ rest = uAz a ++ (uAz l.flatten ++ rest) := by simp [uAz]
  rw [e, List.length_cons, vecs]
  have e1 : nums (uAz a ++ (uAz l.flatten ++ rest)) w = a := by rw [← h1]; exact uG2 a _ h2
  have e2 : (uAz a ++ (uAz l.flatten ++ rest)).drop (w * 4) = uAz l.flatten ++ rest := List.drop_left' (by rw [uAq, h1])
  rw [e1, e2, uGr l rest (fun v hv => h v (by simp [hv]))]
theorem uG1 {w m : Nat} : ∀ (W : List (List (List Int))) (rest : List Int), (∀ l ∈ W, l.length = m ∧ ∀ v ∈ l, v.length = w ∧ I32 v) → prts w m (uAz W.flatten.flatten ++ rest) W.length = W
 | [], rest, _ => rfl
 | a :: W, rest, h => by
  obtain ⟨h1, h2⟩ := h a (by simp)
  have e : uAz (a :: W).flatten.flatten ++ rest = uAz a.flatten ++ (uAz W.flatten.flatten ++ rest) := by simp [uAz]
  rw [e, List.length_cons, prts]
  have e1 : vecs w (uAz a.flatten ++ (uAz W.flatten.flatten ++ rest)) m = a := by rw [← h1]; exact uGr a _ h2
  have e2 : (uAz a.flatten ++ (uAz W.flatten.flatten ++ rest)).drop (m * (w * 4)) = uAz W.flatten.flatten ++ rest := List.drop_left' (by rw [uAq, uFt (fun v hv => (h2 v hv).1), h1, Nat.mul_assoc])
  rw [e1, e2, uG1 W rest (fun v hv => h v (by simp [hv]))]
theorem cw_i32 {v : List Int} (h : cw v = 0) : I32 v := fun x hx => by have := (uCt h).2.2 x hx; omega
theorem uLe {c : Cf} {t : Tn} (h : ctE c t = 0) : ((uAb t.1).length : Int) = 4 * c.2.2.2.1 * c.1 ∧ ((uAa t.2.1).length : Int) = 4 * c.1 * c.2.2.1 ∧ ((uAh c t).length : Int) = iszV c := by
 obtain ⟨q0, q1, q2, q3, q4, q5, q6, q7⟩ := uK6 h
 obtain ⟨s1, s2, s3, s4, s5⟩ := uIs q0
 obtain ⟨d, hd, _, _, _, _, hh⟩ := uQ4 q1
 have hd4 : (d : Int) = c.1 := by rw [← hh] at *; exact q4
 have l1 : ((uAb t.1).length : Int) = 4 * c.2.2.2.1 * c.1 := by
  rw [uE1 q1 hd, ← q3, ← hd4]
  rw [Int.natCast_mul, Int.natCast_mul, Int.mul_comm, ← Int.mul_assoc]; rfl
 obtain ⟨f1, f2, f3⟩ := uHc q2
 have hbd : uC8 t.2.1 = ((t.2.1.length * wdB t.2.1 : Nat) : Int) := by rw [uC8, if_neg (by rw [q2]; simp)]
 have l2 : ((uAa t.2.1).length : Int) = 4 * c.1 * c.2.2.1 := by
  rw [uAa, if_pos q2, uAq, f2, ← q6, ← q7, hbd]
  have e : t.2.1.length * (t.2.1.headD []).length * wdB t.2.1 * 4 = 4 * (t.2.1.length * wdB t.2.1) * (t.2.1.headD []).length := by
   rw [Nat.mul_right_comm t.2.1.length, Nat.mul_comm _ 4]; exact (Nat.mul_assoc 4 _ _).symm
  rw [e, Int.natCast_mul, Int.natCast_mul]; rfl
 refine ⟨l1, l2, ?_⟩
 rw [uAh, if_pos h, List.length_append, Int.natCast_add, l1, l2, iszV, if_pos s1, Int.mul_add, Int.mul_right_comm 4 c.1 c.2.2.2.1]
theorem ir_back {c : Cf} {t : Tn} (h : ctE c t = 0) : irV c (uAh c t) = (t, 0) := by
 obtain ⟨l1, l2, l3⟩ := uLe h
 obtain ⟨q0, q1, q2, q3, q4, q5, q6, q7⟩ := uK6 h
 obtain ⟨s1, s2, s3, s4, s5⟩ := uIs q0
 obtain ⟨d, hd, hd1, hd2, _, _, hh⟩ := uQ4 q1
 have hd4 : (d : Int) = c.1 := by rw [← hh] at *; exact q4
 obtain ⟨hs, hcw⟩ := uBb q2
 obtain ⟨hc, hl⟩ := uAu hs
 have hbd : uC8 t.2.1 = ((t.2.1.length * wdB t.2.1 : Nat) : Int) := by rw [uC8, if_neg (by rw [q2]; simp)]
 have hn : (4 * c.2.2.2.1 * c.1).toNat = (uAb t.1).length := by rw [← l1]; rfl
 have eb : uAh c t = uAb t.1 ++ uAa t.2.1 := by rw [uAh, if_pos h]
 have r1 : uAy (uAb t.1) c.2.2.2.1 c.1 = (t.1, 0) := by rw [← q3, ← hd4]; exact read_whole q1 hd hd1 hd2
 have ebk : uAa t.2.1 = uAz t.2.1.flatten.flatten := by rw [uAa, if_pos q2]
 have hW0 : t.2.1.length ≠ 0 := by omega
 have hdv : Int.tdiv c.1 c.2.1 = (wdB t.2.1 : Nat) := by
  rw [← q7, hbd, ← q5]
  show ((t.2.1.length * wdB t.2.1 / t.2.1.length : Nat) : Int) = _
  rw [Nat.mul_div_cancel_left _ (by omega)]
 have hpb : prts (wdB t.2.1) (t.2.1.headD []).length (uAa t.2.1) t.2.1.length = t.2.1 := by
  have := uG1 (w := wdB t.2.1) (m := (t.2.1.headD []).length) t.2.1 [] (fun l h9 => ⟨(hl l h9).1, fun v hv => ⟨(hl l h9).2 v hv, cw_i32 (hcw l h9 v hv)⟩⟩)
  rw [List.append_nil] at this
  rw [ebk]; exact this
 have r2 : bkR (uAa t.2.1) c.1 c.2.1 c.2.2.1 = (t.2.1, 0) := by
  have hP : prts (Int.tdiv c.1 c.2.1).toNat c.2.2.1.toNat (uAa t.2.1) c.2.1.toNat = t.2.1 := by
   rw [hdv, ← q6, ← q5]; exact hpb
  rw [bkR, if_pos ⟨s2.1, s2.2, s5.1, s5.2, s4.1, s4.2⟩, if_neg (by rw [l2]; simp), hP, if_pos q2]
 have ei : irT c (uAh c t) = t := by
  rw [irT, hn, eb, List.take_left' rfl, List.drop_left' rfl, r1, r2]
 rw [irV, if_neg (by rw [q0]; simp), if_neg (by rw [l3]; simp), ei, if_neg (by rw [h]; simp)]
theorem bookBytes_ok (W : List (List (List Int))) : uAe (uAa W) := by
 intro x hx
 unfold uAa at hx
 split at hx
 ·obtain ⟨y, _, hy⟩ := List.mem_flatMap.1 hx
  simp only [putV, List.mem_map] at hy
  obtain ⟨i, _, rfl⟩ := hy
  omega
 ·simp at hx
theorem byts_ok (c : Cf) (t : Tn) : uAe (uAh c t) := by
 intro x hx
 rw [uAh] at hx
 split at hx
 ·rcases List.mem_append.1 hx with h | h
  ·exact bytesV_ok _ x h
  ·exact bookBytes_ok _ x h
 ·simp at hx
theorem uQr {c : Cf} {b : List Int} (h : cfgE c = 0) (hb : (b.length : Int) ≠ iszV c) : (irV c b).2 = 4 := by rw [irV, if_neg (by rw [h]; simp), if_pos hb]
theorem uDq {t : Tn} (h : uCf t = true) : (t.1.length ≤ 40 ∧ ∀ x ∈ t.1, x.length ≤ 40) ∧ t.2.1.length ≤ 40 ∧ ∀ l ∈ t.2.1, l.length ≤ 40 ∧ ∀ v ∈ l, v.length ≤ 40 := by
 have h' : (uAn t.1 40 40 && (decide ((t.2.1.length : Int) ≤ 40) && t.2.1.all fun l => uAn l 40 40)) = true := h
 simp only [Bool.and_eq_true, decide_eq_true_eq, List.all_eq_true] at h'
 obtain ⟨h1, h2, h3⟩ := h'
 exact ⟨uEy (m := 40) (n := 40) h1, by omega, fun l hl => uEy (m := 40) (n := 40) (h3 l hl)⟩
theorem light_sizes {t : Tn} (h : uCf t = true) : (∀ x ∈ t.2.1, x.length ≤ 4194304) ∧ t.2.1.flatten.length ≤ 4096 ∧ (uAb t.1).length + (uAa t.2.1).length ≤ 300000 := by
 obtain ⟨⟨a1, a2⟩, a3, a4⟩ := uDq h
 have f1 := uB0 (l := t.1) (b := 40) a2
 have f2 := uB0 (l := t.2.1) (b := 40) (fun l hl => (a4 l hl).1)
 have f3 := uB0 (l := t.2.1.flatten) (b := 40) (fun v hv => by
  obtain ⟨l, b1, b2⟩ := List.mem_flatten.1 hv
  exact (a4 l b1).2 v b2)
 have b1 : (uAb t.1).length ≤ t.1.flatten.length * 4 := by
  rw [uAb]; split
  ·rw [uAq]; exact Nat.le_refl _
  ·exact Nat.zero_le _
 have b2 : (uAa t.2.1).length ≤ t.2.1.flatten.flatten.length * 4 := by
  rw [uAa]; split
  ·rw [uAq]; exact Nat.le_refl _
  ·exact Nat.zero_le _
 exact ⟨fun x hx => by have := (a4 x hx).1; omega, by omega, by omega⟩
theorem wf_i64 {x : Int} (h : (Lit.int .i64 x).wf = true) : -9223372036854775808 ≤ x ∧ x < 9223372036854775808 := by
 simp [Lit.wf] at h
 have h1 : (-9223372036854775808 : Int) ≤ x := h.1
 have h2 : x ≤ (9223372036854775807 : Int) := h.2
 omega
theorem wf_u8 {x : Int} (h : (Lit.int .u8 x).wf = true) : 0 ≤ x ∧ x < 256 := by
 simp [Lit.wf] at h
 have h1 : (0 : Int) ≤ x := h.1
 have h2 : x ≤ (255 : Int) := h.2
 omega
noncomputable def uDu : Tel (Cf × Tnn × Int × Int × Unit) := .cons 0 (.agg Ecf) (.cons 1 (.aggW Etn) (.ji 2 (.cons 3 (.int .u8) (.nil))))
abbrev uAf : List Sh := [.fcons (.int .i64) (.fcons (.int .i64) (.fcons (.int .i64) (.fcons (.int .i64) (.fcons (.int .i64) (.fcons (.int .i64) (.fcons (.int .i64) (.fcons (.int .i64) (.fnil)))))))), .fcons (.slice (.slice (.int .i32))) (.fcons (.fcons (.slice (.slice (.slice (.int .i32)))) .fnil) .fnil), .int .i64, .int .u8]
noncomputable abbrev uA7 := KLX [(7, uK0), (8, uQc), (9, uK3), (59, uTx), (64, uK9), (61, uQq), (13, uTn), (62, uTp), (68, rszK), (47, ktrK), (66, uLv)] [] [5] [(6, [])] []
theorem indexBytesFn (c : Cf) (t : Tnn) (a m : Int) : (callW PP (runW PP uA7 300) 6 (uDu.cells id (c, t, a, m, ())) (stB true) (fun v _ => yesQ v)) = ( True ∧ ∃ (a_1 : Cf), AV.agg [I64 c.1, I64 c.2.1, I64 c.2.2.1, I64 c.2.2.2.1, I64 c.2.2.2.2.1, I64 c.2.2.2.2.2.1, I64 c.2.2.2.2.2.2.1, I64 c.2.2.2.2.2.2.2.1] = AV.agg [I64 a_1.1, I64 a_1.2.1, I64 a_1.2.2.1, I64 a_1.2.2.2.1, I64 a_1.2.2.2.2.1, I64 a_1.2.2.2.2.2.1, I64 a_1.2.2.2.2.2.2.1, I64 a_1.2.2.2.2.2.2.2.1] ∧ uE2 (a_1, ()) ∧ ifp (uJ8 a_1) (∃ (a_2 : Tn), WkL [AV.vs (List.flatMap Ell.f t.1) t.1.length t.1.length false none 1, AV.vs (List.flatMap Ecs.f t.2.1.1) t.2.1.1.length t.2.1.1.length false none 1] (Etr.f a_2) ∧ uCr (a_2, ()) ∧ ifp (uCf a_2) (∃ (a_3 : Cf), AV.agg [I64 c.1, I64 c.2.1, I64 c.2.2.1, I64 c.2.2.2.1, I64 c.2.2.2.2.1, I64 c.2.2.2.2.2.1, I64 c.2.2.2.2.2.2.1, I64 c.2.2.2.2.2.2.2.1] = AV.agg [I64 a_3.1, I64 a_3.2.1, I64 a_3.2.2.1, I64 a_3.2.2.2.1, I64 a_3.2.2.2.2.1, I64 a_3.2.2.2.2.2.1, I64 a_3.2.2.2.2.2.2.1, I64 a_3.2.2.2.2.2.2.2.1] ∧ ∃ (a_4 : Tn), WkL [AV.vs (List.flatMap Ell.f t.1) t.1.length t.1.length false none 1, AV.vs (List.flatMap Ecs.f t.2.1.1) t.2.1.1.length t.2.1.1.length false none 1] (Etr.f a_4) ∧ uI1 (a_3, a_4, ()) ∧ ifp (!eqInt (ctE a_3 a_4) 0) (∃ (a : Cf), AV.agg [I64 c.1, I64 c.2.1, I64 c.2.2.1, I64 c.2.2.2.1, I64 c.2.2.2.2.1, I64 c.2.2.2.2.2.1, I64 c.2.2.2.2.2.2.1, I64 c.2.2.2.2.2.2.2.1] = AV.agg [I64 a.1, I64 a.2.1, I64 a.2.2.1, I64 a.2.2.2.1, I64 a.2.2.2.2.1, I64 a.2.2.2.2.2.1, I64 a.2.2.2.2.2.2.1, I64 a.2.2.2.2.2.2.2.1] ∧ ∃ (a_5 : Tn), WkL [AV.vs (List.flatMap Ell.f t.1) t.1.length t.1.length false none 1, AV.vs (List.flatMap Ecs.f t.2.1.1) t.2.1.1.length t.2.1.1.length false none 1] (Etr.f a_5) ∧ uB3 (a, a_5, ()) ∧ ifp (!eqInt (ctE a a_5) 0) (ifp (eqInt (Int.ofNat (uAh a_3 a_4).length) 0) True False) False) (∃ (a_5 : Cf), AV.agg [I64 c.1, I64 c.2.1, I64 c.2.2.1, I64 c.2.2.2.1, I64 c.2.2.2.2.1, I64 c.2.2.2.2.2.1, I64 c.2.2.2.2.2.2.1, I64 c.2.2.2.2.2.2.2.1] = AV.agg [I64 a_5.1, I64 a_5.2.1, I64 a_5.2.2.1, I64 a_5.2.2.2.1, I64 a_5.2.2.2.2.1, I64 a_5.2.2.2.2.2.1, I64 a_5.2.2.2.2.2.2.1, I64 a_5.2.2.2.2.2.2.2.1] ∧ ∃ l, Wv Eu8 (uAh a_3 a_4) l ∧ uCg (a_5, l, ()) ∧ uHn (a, Int.ofNat (uAh a_3 a_4).length, ()) ∧ (0 : Int) ≤ uC7 a (Int.ofNat (uAh a_3 a_4).length) ∧ uC7 a (Int.ofNat (uAh a_3 a_4).length) ≤ ↑(uAh a_3 a_4).length ∧ natOf (uC7 a (Int.ofNat (uAh a_3 a_4).length)) ≤ (uAh a_3 a_4).length ∧ (List.flatMap Eu8.f (uAh a_3 a_4)).length = (uAh a_3 a_4).length.mul 1 ∧ ∃ (a_6 : Cf), AV.agg [I64 c.1, I64 c.2.1, I64 c.2.2.1, I64 c.2.2.2.1, I64 c.2.2.2.2.1, I64 c.2.2.2.2.2.1, I64 c.2.2.2.2.2.2.1, I64 c.2.2.2.2.2.2.2.1] = AV.agg [I64 a_6.1, I64 a_6.2.1, I64 a_6.2.2.1, I64 a_6.2.2.2.1, I64 a_6.2.2.2.2.1, I64 a_6.2.2.2.2.2.1, I64 a_6.2.2.2.2.2.2.1, I64 a_6.2.2.2.2.2.2.2.1] ∧ ∃ (l_1 : List Int), Wk (AV.vs (List.take (((natOf (uC7 a (Int.ofNat (uAh a_3 a_4).length))).sub 0).mul 1) (List.drop 0 (List.flatMap Eu8.f (uAh a_3 a_4)))) ((natOf (uC7 a (Int.ofNat (uAh a_3 a_4).length))).sub 0) ((uAh a_3 a_4).length.sub 0) (mxEx none false) none 1) (lst Eu8 l_1) ∧ uCg (a_6, l_1, ()) ∧ (AV.agg [I64 c.1, I64 c.2.1, I64 c.2.2.1, I64 c.2.2.2.1, I64 c.2.2.2.2.1, I64 c.2.2.2.2.2.1, I64 c.2.2.2.2.2.2.1, I64 c.2.2.2.2.2.2.2.1] = AV.agg [I64 c.1, I64 c.2.1, I64 c.2.2.1, I64 c.2.2.2.1, I64 c.2.2.2.2.1, I64 c.2.2.2.2.2.1, I64 c.2.2.2.2.2.2.1, I64 c.2.2.2.2.2.2.2.1] ∧ True) ∧ True ∧ True ∧ ∃ l_2, Wv Eu8 (uAh a_3 a_4) l_2 ∧ true = true ∧ uHq ((l_2, ()), ()) ∧ (∀ c_1 d, uMn ((l_2, ()), ()) c_1 d → 1 ≤ 1 ∧ ifp (roomy (c_1.1.length.add 1) 1) (∃ (a : Cf), AV.agg [I64 c.1, I64 c.2.1, I64 c.2.2.1, I64 c.2.2.2.1, I64 c.2.2.2.2.1, I64 c.2.2.2.2.2.1, I64 c.2.2.2.2.2.2.1, I64 c.2.2.2.2.2.2.2.1] = AV.agg [I64 a.1, I64 a.2.1, I64 a.2.2.1, I64 a.2.2.2.1, I64 a.2.2.2.2.1, I64 a.2.2.2.2.2.1, I64 a.2.2.2.2.2.2.1, I64 a.2.2.2.2.2.2.2.1] ∧ ∃ (l_3 : List Int), Wk (AV.vs (List.flatMap Eu8.f c_1.1 ++ [AV.int .u8 m]) (c_1.1.length.add 1) (c_1.1.length.add 1) false (some 31) 1) (lst Eu8 l_3) ∧ uCg (a, l_3, ()) ∧ (AV.agg [I64 c.1, I64 c.2.1, I64 c.2.2.1, I64 c.2.2.2.1, I64 c.2.2.2.2.1, I64 c.2.2.2.2.2.1, I64 c.2.2.2.2.2.2.1, I64 c.2.2.2.2.2.2.2.1] = AV.agg [I64 c.1, I64 c.2.1, I64 c.2.2.1, I64 c.2.2.2.1, I64 c.2.2.2.2.1, I64 c.2.2.2.2.2.1, I64 c.2.2.2.2.2.2.1, I64 c.2.2.2.2.2.2.2.1] ∧ AV.agg [I64 c.1, I64 c.2.1, I64 c.2.2.1, I64 c.2.2.2.1, I64 c.2.2.2.2.1, I64 c.2.2.2.2.2.1, I64 c.2.2.2.2.2.2.1, I64 c.2.2.2.2.2.2.2.1] = AV.agg [I64 c.1, I64 c.2.1, I64 c.2.2.1, I64 c.2.2.2.1, I64 c.2.2.2.2.1, I64 c.2.2.2.2.2.1, I64 c.2.2.2.2.2.2.1, I64 c.2.2.2.2.2.2.2.1] ∧ True) ∧ ifp (eqInt (irV a_5 l).2 0) (∃ (a_7 : Cf), AV.agg [I64 c.1, I64 c.2.1, I64 c.2.2.1, I64 c.2.2.2.1, I64 c.2.2.2.2.1, I64 c.2.2.2.2.2.1, I64 c.2.2.2.2.2.2.1, I64 c.2.2.2.2.2.2.2.1] = AV.agg [I64 a_7.1, I64 a_7.2.1, I64 a_7.2.2.1, I64 a_7.2.2.2.1, I64 a_7.2.2.2.2.1, I64 a_7.2.2.2.2.2.1, I64 a_7.2.2.2.2.2.2.1, I64 a_7.2.2.2.2.2.2.2.1] ∧ uLw (a_7, ()) ∧ ifp (eqInt (Int.ofNat (uAh a_3 a_4).length) (iszV a_7)) (∃ (a_8 : Tn), WkL [AV.vs (List.flatMap Ell.f (irV a_5 l).1.1) (irV a_5 l).1.1.length (irV a_5 l).1.1.length false none 1, AV.vs (List.flatMap Ecs.f (irV a_5 l).1.2.1) (irV a_5 l).1.2.1.length (irV a_5 l).1.2.1.length false none 1] (Etr.f a_8) ∧ ∃ (a_9 : Tn), WkL [AV.vs (List.flatMap Ell.f t.1) t.1.length t.1.length false none 1, AV.vs (List.flatMap Ecs.f t.2.1.1) t.2.1.1.length t.2.1.1.length false none 1] (Etr.f a_9) ∧ uM1 (a_8, a_9, ()) ∧ ifp (decide (a_8.1 = a_9.1 ∧ a_8.2.1 = a_9.2.1)) (∃ (a_10 : Tn), WkL [AV.vs (List.flatMap Ell.f (irV a_5 l).1.1) (irV a_5 l).1.1.length (irV a_5 l).1.1.length false none 1, AV.vs (List.flatMap Ecs.f (irV a_5 l).1.2.1) (irV a_5 l).1.2.1.length (irV a_5 l).1.2.1.length false none 1] (Etr.f a_10) ∧ ∃ (a_11 : Tn), WkL [AV.vs (List.flatMap Ell.f t.1) t.1.length t.1.length false none 1, AV.vs (List.flatMap Ecs.f t.2.1.1) t.2.1.1.length t.2.1.1.length false none 1] (Etr.f a_11) ∧ uDi (a_10, a_11, ()) ∧ ifp (decide (a_10.1 = a_11.1 ∧ a_10.2.1 = a_11.2.1)) (ifp (eqInt (irV a_6 l_1).2 4) (ifp (eqInt (irV a l_3).2 4) (∃ (a : Cf), AV.agg [I64 c.1, I64 c.2.1, I64 c.2.2.1, I64 c.2.2.2.1, I64 c.2.2.2.2.1, I64 c.2.2.2.2.2.1, I64 c.2.2.2.2.2.2.1, I64 c.2.2.2.2.2.2.2.1] = AV.agg [I64 a.1, I64 a.2.1, I64 a.2.2.1, I64 a.2.2.2.1, I64 a.2.2.2.2.1, I64 a.2.2.2.2.2.1, I64 a.2.2.2.2.2.2.1, I64 a.2.2.2.2.2.2.2.1] ∧ ∃ (a_12 : Tn), WkL [AV.vs (List.flatMap Ell.f (irV a_5 l).1.1) (irV a_5 l).1.1.length (irV a_5 l).1.1.length false none 1, AV.vs (List.flatMap Ecs.f (irV a_5 l).1.2.1) (irV a_5 l).1.2.1.length (irV a_5 l).1.2.1.length false none 1] (Etr.f a_12) ∧ uB3 (a, a_12, ()) ∧ ifp (eqInt (ctE a a_12) 0) True False) False) False) False) False) False) False) False) ∧ True)) True) True) := by kernel_rfl
theorem indexBytesHolds (c : Cf) (t : Tnn) (a : Int) (m : Int) (hc : Sh.plOk (.fcons (.int .i64) (.fcons (.int .i64) (.fcons (.int .i64) (.fcons (.int .i64) (.fcons (.int .i64) (.fcons (.int .i64) (.fcons (.int .i64) (.fcons (.int .i64) (.fnil))))))))) c) (ht : Sh.plOk (.fcons (.slice (.slice (.int .i32))) (.fcons (.fcons (.slice (.slice (.slice (.int .i32)))) .fnil) .fnil)) t) (ha : Sh.plOk (.int .i64) a) (hm : Sh.plOk (.int .u8) m) : callW PP (runW PP uA7 300) 6 (uDu.cells id (c, t, a, m, ())) (stB true) (fun v _ => yesQ v) := by
 refine (indexBytesFn c t a m).mpr ?_
 refine ⟨trivial, c, rfl, trivial, ?_⟩
 cases h1 : uJ8 c with
 | false => rw [ifp_neg rfl]; trivial
 | true =>
  rw [ifp_pos rfl]
  refine ⟨(t.1, t.2.1.1, ()), WkL.refl _, trivial, ?_⟩
  cases h2 : uCf (t.1, t.2.1.1, ()) with
  | false => rw [ifp_neg rfl]; trivial
  | true =>
   rw [ifp_pos rfl]
   obtain ⟨z1, z2, z3⟩ := light_sizes h2
   obtain ⟨⟨y1, y2⟩, y3, y4⟩ := uDq h2
   have hSH : ((t.1, t.2.1.1, ()) : Tn).1.length < 9223372036854775807 ∧ (∀ x ∈ ((t.1, t.2.1.1, ()) : Tn).1, x.length < 9223372036854775807) ∧ ((t.1, t.2.1.1, ()) : Tn).2.1.length < 9223372036854775807 ∧ ∀ y ∈ ((t.1, t.2.1.1, ()) : Tn).2.1, y.length < 9223372036854775807 ∧ ∀ x ∈ y, x.length < 9223372036854775807 := ⟨by omega, fun x hx => by have := y2 x hx; omega, by omega, fun y hy => ⟨by have := (y4 y hy).1; omega, fun x hx => by have := (y4 y hy).2 x hx; omega⟩⟩
   refine ⟨c, rfl, ((t.1, t.2.1.1, ()) : Tn), WkL.refl _, ⟨z1, z2, by show _ ≤ 16777216; omega⟩, ?_⟩
   rw [ifp_ne]
   split
   case isFalse h3 =>
    refine ⟨c, rfl, ((t.1, t.2.1.1, ()) : Tn), WkL.refl _, z1, ?_⟩
    rw [ifp_ne, if_neg h3, ifp_eq, if_pos (by rw [uAh, if_neg h3]; rfl)]
    trivial
   case isTrue h3 =>
    have hB := ir_back h3
    obtain ⟨l1, l2, l3⟩ := uLe h3
    have hcf := (uK6 h3).1
    have hpos := uK7 h3
    have hbl : (uAh c ((t.1, t.2.1.1, ()) : Tn)).length = (uAb ((t.1, t.2.1.1, ()) : Tn).1).length + (uAa ((t.1, t.2.1.1, ()) : Tn).2.1).length := by rw [uAh, if_pos h3, List.length_append]
    have hok := byts_ok c ((t.1, t.2.1.1, ()) : Tn)
    obtain ⟨a1, a2⟩ := wf_i64 ha
    obtain ⟨p1, p2⟩ := pick_range (n := a) (m := Int.ofNat (uAh c ((t.1, t.2.1.1, ()) : Tn)).length) (by simp only [Int.ofNat_eq_natCast]; omega)
    obtain ⟨n, hn⟩ := Int.eq_ofNat_of_zero_le p1
    rw [hn] at p2
    simp only [hn, natOf_nat]
    simp only [Int.ofNat_eq_natCast] at p2
    have hnb : n < (uAh c ((t.1, t.2.1.1, ()) : Tn)).length := by omega
    refine ⟨c, rfl, uAh c ((t.1, t.2.1.1, ()) : Tn), Wk.refl _, ⟨hok, by omega⟩, ⟨a1, a2, by show ((uAh c ((t.1, t.2.1.1, ()) : Tn)).length : Int) < _; omega⟩, by omega, by omega, by omega, Enc.flen Eu8 _, c, rfl, (uAh c ((t.1, t.2.1.1, ()) : Tn)).take n, wk_vs ⟨by show List.take ((n - 0) * 1) (List.drop 0 _) = _; rw [List.drop_zero, Nat.mul_one, Nat.sub_zero, ftake1 (E := Eu8) rfl], by show n - 0 = _; rw [List.length_take]; omega, rfl⟩, ⟨fun y hy => hok y (List.mem_of_mem_take hy), by rw [List.length_take]; omega⟩, ⟨(by trivial), trivial⟩, trivial, trivial, uAh c ((t.1, t.2.1.1, ()) : Tn), Wk.refl _, (by trivial), by show (uAh c ((t.1, t.2.1.1, ()) : Tn)).length ≤ 1000000; omega, fun c1 d1 hr => ?_, trivial⟩
    obtain ⟨b1, _⟩ := c1
    obtain rfl : b1 = uAh c ((t.1, t.2.1.1, ()) : Tn) := hr
    dsimp only
    refine ⟨Nat.le_refl _, ?_⟩
    rw [ifp_pos (roomy_small (by show (uAh c ((t.1, t.2.1.1, ()) : Tn)).length + 1 ≤ _; omega) (by decide))]
    refine ⟨c, rfl, uAh c ((t.1, t.2.1.1, ()) : Tn) ++ [m], wk_vs ⟨by rw [List.flatMap_append]; rfl, by simp, rfl⟩, ⟨fun y hy => ?_, by simp; omega⟩, ⟨(by trivial), (by trivial), trivial⟩, ?_⟩
    ·rcases List.mem_append.1 hy with h9 | h9
     ·exact hok y h9
     ·obtain rfl := List.mem_singleton.1 h9; exact wf_u8 hm
    rw [hB, ifp_eq, if_pos rfl]
    refine ⟨c, rfl, trivial, ?_⟩
    rw [ifp_eq, if_pos (by simp only [Int.ofNat_eq_natCast]; exact l3)]
    refine ⟨((t.1, t.2.1.1, ()) : Tn), WkL.refl _, ((t.1, t.2.1.1, ()) : Tn), WkL.refl _, hSH, ?_⟩
    rw [ifp_pos (by simp)]
    refine ⟨((t.1, t.2.1.1, ()) : Tn), WkL.refl _, ((t.1, t.2.1.1, ()) : Tn), WkL.refl _, hSH, ?_⟩
    rw [ifp_pos (by simp), ifp_eq, if_pos (uQr hcf (by rw [List.length_take]; omega)), ifp_eq, if_pos (uQr hcf (by rw [List.length_append]; simp; omega))]
    refine ⟨c, rfl, ((t.1, t.2.1.1, ()) : Tn), WkL.refl _, z1, ?_⟩
    rw [ifp_eq, if_pos h3]
    trivial
theorem indexBytesTrue (y : ShPls uAf) (hy : ShPlOks uAf y) : callW PP (runW PP uA7 300) 6 (ShPlAvs uAf y) (stB true) (fun v _ => yesQ v) :=
 indexBytesHolds y.1 y.2.1 y.2.2.1 y.2.2.2.1 hy.1 hy.2.1 hy.2.2.1 hy.2.2.2.1
theorem indexBytesCalls {x : ShVs uAf} (hx : ShOks uAf x) {W : World} {args : Array Value} (h : VRs (frozenAll W) (ShAvs uAf x) args.toList) : Calls PP 6 args W fun e w' => e = .returned (.bool true) ∧ Below W.heap.size W w' :=
 law_plain mixed (KLX_ok (cc_cons lives19Cc (cc_cons smallCc (cc_cons lightTrCc (cc_cons bytsCc (cc_cons uIl (cc_cons ireadCc (cc_cons pickCc (cc_cons own8Cc (cc_cons rszCc (cc_cons ktrCc (cc_cons sameTrCc (cc_nil))))))))))))) indexBytesTrue hx h
end Go.Proofs.YtcnnjlhecndhnaaGreat
