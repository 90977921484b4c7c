/- Part of the proof of RerankNarrow. -/
import Derived.Test.YteehkdejkemnmaaDoorRows
import Derived.Test.YteehkdejkemnmaaDoorDd
import Derived.ProofKit
import Derived.Test.YteehkdejkemnmaaDoorPa
import Derived.Test.YteehkdejkemnmaaDoorDe
import Derived.Test.YteehkdejkemnmaaDoorPb
set_option linter.unusedVariables false
set_option linter.unusedSimpArgs false
namespace Go.Proofs.YteehkdejkemnmaaDoor
open Go.Det Go.RowKit
set_option maxRecDepth 100000
abbrev uB5 := Nat × Nat
abbrev uB7 := (uB5 × Unit × Int × Int × Unit) × ((List Cd) × Unit)
noncomputable def uKs : Tel (uB5 × Unit × Int × Int × Unit) := .cons 0 (.slq 0 4) (.cons 1 (.fnp 52 []) (.ji 7 (.ji 8 (.nil))))
noncomputable def uKw : BTel ((List Cd) × Unit) := .cons (.rows Ec 42) (.nil)
noncomputable def uKv : List (LForm uB7) := [⟨_, _, uKs, uKw, fun x y => (x, y)⟩]
abbrev uBe := (List Cd) × Unit
noncomputable def uEm (R0 : uB7 → (Unit) → uBe → Prop) (R1 : uB7 → (Int × Unit) → uBe → Prop) : List (Alt uB7) := [⟨.exit 0, Unit, uBe, .nil, .cons (.rows Ec 42) (.nil), R0⟩, ⟨.ret, Int × Unit, uBe, .ji 4 (.nil), .cons (.rows Ec 42) (.nil), R1⟩]
theorem mayIRForm (l : Nat × Nat) (n i : Int) (L : List Cd) (N : uB7 → Prop) (R0 : uB7 → (Unit) → uBe → Prop) (R1 : uB7 → (Int × Unit) → uBe → Prop) : ((runW PP (KLS [(52, uQa)] [] 42) 100).code none 63 19 (loopBody PP 63 2) (mkT (uKs.av id (l, (), n, i, ()))) [] (stL false (uKw.obs id (L, ()))) (postL 1 uKv (uEm R0 R1) ((l, (), n, i, ()), L, ()) N)) = ( ifp (!leInt n i) (idxOk i l.1 ∧ ∃ x : Int, nth ((Nat.add 0 ((natOf i).mul 4)).add 0) (L.flatMap Ec.f) = some (I64 x) ∧ ∃ x_1 : Int, nth ((Nat.add 0 ((natOf i).mul 4)).add 1) (L.flatMap Ec.f) = some (I64 x_1) ∧ ∃ x_2 : Int, nth ((Nat.add 0 ((natOf i).mul 4)).add 2) (L.flatMap Ec.f) = some (I64 x_2) ∧ ∃ x_3 : Int, nth ((Nat.add 0 ((natOf i).mul 4)).add 3) (L.flatMap Ec.f) = some (I64 x_3) ∧ ∃ a : Cd, Ag4 x x_1 x_2 x_3 a ∧ uGx (a, ()) ∧ ifp (!mayC a) (True ∧ ∃ l_1, Sa Ec L l_1 ∧ true = true ∧ R1 ((l, (), n, i, ()), L, ()) (i, ()) (l_1, ())) (True ∧ ∃ l_1, Sa Ec L l_1 ∧ true = true ∧ N ((l, (), n, wrapF .i64 (i.add 1), ()), l_1, ()))) (True ∧ ∃ l_1, Sa Ec L l_1 ∧ true = true ∧ R0 ((l, (), n, i, ()), L, ()) () (l_1, ()))) := by kernel_rfl
def uGz : uB7 → Prop := fun ((l, (), n, i, ()), L, ()) => ∃ k : Nat, i = k ∧ l.1 = L.length ∧ n = L.length ∧ k ≤ L.length ∧ L.length ≤ 1000000 ∧ (L.take k).all mayC = true
def uQe : uB7 → Nat := fun ((l, (), n, i, ()), L, ()) => L.length - i.toNat
def uKu : uB7 → (Unit) → uBe → Prop := fun ((l, (), n, i, ()), L, ()) _ (L2, _) => L2 = L ∧ L.all mayC = true
def uKt : uB7 → (Int × Unit) → uBe → Prop := fun ((l, (), n, i, ()), L, ()) (q, _) (L2, _) => 0 ≤ q ∧ L2 = L ∧ L.all mayC = false
noncomputable def uMs : LoopC := loopC 1 uKv (uEm uKu uKt) uGz
theorem mayIRStep : stepsOk PP (KLS [(52, uQa)] [] 42) 100 63 19 (loopBody PP 63 2) 1 false uKv (uEm uKu uKt) uGz uQe ⟨_, _, uKs, uKw, fun x y => (x, y)⟩ := by
 intro x y hz
 obtain ⟨l, _, n, i, _⟩ := x
 obtain ⟨L, _⟩ := y
 refine (mayIRForm l n i L _ _ _).mpr ?_
 obtain ⟨k, rfl, hd, rfl, hk, hl, ht⟩ := hz
 obtain ⟨l1, l2⟩ := l
 obtain rfl : l1 = L.length := hd
 rw [ifp_lt]
 simp only [natOf_nat]
 split
 ·rename_i h
  have hkl : k < L.length := by simpa using h
  refine ⟨idx_ok hkl, _, uAm hkl, _, uAh hkl, _, uAl hkl, _, uAk hkl, L[k], rfl, trivial, ?_⟩
  cases hm : mayC L[k] with
  | true =>
   rw [ifp_neg (show (!true) = false from rfl)]
   refine ⟨trivial, L, rfl, (by trivial), ?_⟩
   rw [wsucc (by omega)]
   exact ⟨⟨k + 1, rfl, rfl, rfl, hkl, hl, by rw [all_take_succ hkl, ht, hm]; rfl⟩, by show L.length - (k + 1) < L.length - k; omega, fun _ _ h => h, fun _ _ h => h, trivial⟩
  | false =>
   rw [ifp_pos (show (!false) = true from rfl)]
   exact ⟨trivial, L, rfl, (by trivial), by omega, rfl, all_of_get hkl hm⟩
 ·rename_i h
  have hkl : ¬ k < L.length := by simpa using h
  exact ⟨trivial, L, rfl, (by trivial), rfl, by rw [take_all hkl] at ht; exact ht⟩
theorem mayIROk : LoopOk PP 63 19 (.loop (loopBody PP 63 2)) (uMs) := loop_ok uQe  mixed (KLS_ok (cc_cons uTo (cc_nil))) rfl (steps_cons mayIRStep (steps_nil))
abbrev uNe := (uB5 × Unit) × uBe
noncomputable def uV8 : Tel (uB5 × Unit) := .cons 0 (.slq 0 4) (.nil)
noncomputable def uQc : BTel uBe := .cons (.rows Ec 42) (.nil)
noncomputable def uKr (R0 : uNe → (Bool × Unit) → uBe → Prop) : List (Res uNe) := [⟨Bool × Unit, uBe, .cons 0 (.bool) (.nil), .cons (.rows Ec 42) (.nil), R0⟩]
theorem mayRFn (l : Nat × Nat) (L : List Cd) (R0 : uNe → (Bool × Unit) → uBe → Prop) : (callW PP (runW PP (KLS [] [(63, [(2, uMs)])] 42) 200) 32 (uV8.cells id (l, ())) (stL false (uQc.obs id (L, ()))) (fun v st => resAny 1 ((l, ()), L, ()) v st (uKr R0))) = ( LoopOk PP 63 19 (loopBody PP 63 2).loop uMs ∧ True ∧ True ∧ ∃ l_1, Sa Ec L l_1 ∧ true = true ∧ uGz ((l, (), Int.ofNat l.1, 0, ()), l_1, ()) ∧ (∀ c d, uKu ((l, (), Int.ofNat l.1, 0, ()), l_1, ()) c d → ∃ l_2, Sa Ec d.1 l_2 ∧ true = true ∧ R0 ((l, ()), L, ()) (true, ()) (l_2, ())) ∧ (∀ c d, uKt ((l, (), Int.ofNat l.1, 0, ()), l_1, ()) c d → ifp (leInt 0 c.1) (∃ l_2, Sa Ec d.1 l_2 ∧ true = true ∧ R0 ((l, ()), L, ()) (false, ()) (l_2, ())) (∃ l_2, Sa Ec d.1 l_2 ∧ true = true ∧ R0 ((l, ()), L, ()) (true, ()) (l_2, ()))) ∧ True) := by kernel_rfl
def uEk : uNe → Prop := fun ((l, ()), L, ()) => l.1 = L.length ∧ L.length ≤ 1000000
def uIi : uNe → (Bool × Unit) → uBe → Prop := fun ((l, ()), L, ()) (r, _) (L2, _) => r = L.all mayC ∧ L2 = L
noncomputable def uSn : CallC := callC 1 uV8 uQc uEk (uKr uIi)
theorem mayRStep (z : uNe) (hp : uEk z) : callW PP (runW PP (KLS [] [(63, [(2, uMs)])] 42) 200) 32 (uV8.cells id z.1) (stL false (uQc.obs id z.2)) (fun v st => resAny 1 z v st (uKr uIi)) := by
 obtain ⟨⟨l, _⟩, ⟨L, _⟩⟩ := z
 refine (mayRFn l L _).mpr ?_
 obtain ⟨hd, hl⟩ := hp
 refine ⟨mayIROk, trivial, trivial, L, rfl, (by trivial), ⟨0, rfl, hd, hd ▸ rfl, Nat.zero_le _, hl, rfl⟩, fun _ d hr => ?_, fun c d hr => ?_, trivial⟩
 ·obtain ⟨L2, _⟩ := d
  obtain ⟨rfl, hr⟩ := hr
  exact ⟨L2, rfl, (by trivial), hr.symm, rfl⟩
 ·obtain ⟨q, _⟩ := c
  obtain ⟨L2, _⟩ := d
  obtain ⟨h0, rfl, hf⟩ := hr
  rw [ifp_le, if_pos h0]
  exact ⟨L2, rfl, (by trivial), hf.symm, rfl⟩
theorem uQb : CcOk PP 32 uSn := call_ok mixed (KLS_ok (cc_nil)) rfl mayRStep
abbrev uNc := (uB5 × Unit) × uBe
noncomputable def uVs : Tel (uB5 × Unit) := .cons 0 (.slq 0 4) (.nil)
noncomputable def uPy : BTel uBe := .cons (.rows Ec 42) (.nil)
noncomputable def uKm (R0 : uNc → uBe → uBe → Prop) : List (Res uNc) := [⟨(List Cd) × Unit, uBe, .cons 0 (.lst Ec) (.nil), .cons (.rows Ec 42) (.nil), R0⟩]
theorem ordRFn (l : Nat × Nat) (L : List Cd) (R0 : uNc → uBe → uBe → Prop) : (callW PP (runW PP (KLS [(32, uSn), (42, uLm)] [] 42) 200) 24 (uVs.cells id (l, ())) (stL false (uPy.obs id (L, ()))) (fun v st => Go.Det.frz1 v st fun v st => resAny 1 ((l, ()), L, ()) v st (uKm R0))) = ( ∃ l_1, Sa Ec L l_1 ∧ true = true ∧ uEk ((l, ()), l_1, ()) ∧ (∀ c d, uIi ((l, ()), l_1, ()) c d → ifp c.1 (Nat.add 0 (l.1.mul 4) ≤ (List.flatMap Ec.f d.1).length ∧ ifp (allScalar (List.take (l.1.mul 4) (List.drop 0 (List.flatMap Ec.f d.1))) && true) (0 < Nat.add 0 l.1 ∧ 0 = 0 ∧ 0 = 0 ∧ roomy (Nat.add 0 l.1) 32 = true ∧ ∃ (l_2 : List Cd), [] ++ List.take (l.1.mul 4) (List.drop 0 (List.flatMap Ec.f d.1)) = l_2.flatMap Ec.f ∧ true = true ∧ uDl (((Nat.add 0 l.1, Nat.add 0 l.1), (), ()), l_2, ()) ∧ (∀ c d_1, uFt (((Nat.add 0 l.1, Nat.add 0 l.1), (), ()), l_2, ()) c d_1 → (0 : Int) ≤ Int.ofNat (Nat.add 0 l.1) ∧ Int.ofNat (Nat.add 0 l.1) ≤ ↑(Nat.add 0 l.1) ∧ (0 : Int) ≤ Int.ofNat (Nat.add 0 l.1) ∧ Int.ofNat (Nat.add 0 l.1) ≤ ↑(natOf (Int.ofNat (Nat.add 0 l.1))) ∧ Nat.add 0 (((natOf (Int.ofNat (Nat.add 0 l.1))).sub 0).mul 4) ≤ (List.flatMap Ec.f d_1.1).length ∧ ∃ (l_3 : List Cd), Wk (AV.vs (List.take (((natOf (Int.ofNat (Nat.add 0 l.1))).sub 0).mul 4) (List.drop 0 (List.flatMap Ec.f d_1.1))) ((natOf (Int.ofNat (Nat.add 0 l.1))).sub 0) ((natOf (Int.ofNat (Nat.add 0 l.1))).sub 0) (mxEx (some (I64 (Int.ofNat (Nat.add 0 l.1)))) false) none 4) (lst Ec l_3) ∧ ∃ l_4, Sa Ec d.1 l_4 ∧ true = true ∧ R0 ((l, ()), L, ()) (l_3, ()) (l_4, ())) ∧ True) False) (∃ (l_2 : List Cd), Wk AV.nilSlice (lst Ec l_2) ∧ ∃ l_3, Sa Ec d.1 l_3 ∧ true = true ∧ R0 ((l, ()), L, ()) (l_2, ()) (l_3, ()))) ∧ True) := by kernel_rfl
def uGq : uNc → Prop := fun ((l, ()), L, ()) => l = (L.length, L.length) ∧ 0 < L.length ∧ L.length ≤ 1000000
def uMp : uNc → uBe → uBe → Prop := fun ((l, ()), L, ()) (o, _) (L2, _) => o = ordC L ∧ L2 = L
noncomputable def uXo : CallC := callC 1 uVs uPy uGq (uKm uMp)
theorem ordRStep (z : uNc) (hp : uGq z) : callW PP (runW PP (KLS [(32, uSn), (42, uLm)] [] 42) 200) 24 (uVs.cells id z.1) (stL false (uPy.obs id z.2)) (fun v st => Go.Det.frz1 v st fun v st => resAny 1 z v st (uKm uMp)) := by
 obtain ⟨⟨l, _⟩, ⟨L, _⟩⟩ := z
 refine (ordRFn l L _).mpr ?_
 obtain ⟨rfl, h0, hl⟩ := hp
 have e0 : Nat.add 0 L.length = L.length := Nat.zero_add _
 have hs : (uBk L).length = L.length := Stab.sort_len L
 have ht : List.take (L.length.mul 4) (List.drop 0 (L.flatMap Ec.f)) = L.flatMap Ec.f := by rw [List.drop_zero, List.take_of_length_le (by rw [uB9]; exact Nat.le_refl _)]
 refine ⟨L, rfl, rfl, ⟨rfl, hl⟩, fun c d hr => ?_, trivial⟩
 obtain ⟨b, _⟩ := c
 obtain ⟨L2, _⟩ := d
 obtain ⟨hb, hL⟩ := hr
 obtain rfl : L = L2 := hL.symm
 obtain rfl : b = L.all mayC := hb
 dsimp only
 cases hm : L.all mayC with
 | false =>
  rw [ifp_neg rfl]
  exact ⟨[], wk_nil Ec, L, rfl, (by trivial), by rw [ordC, if_neg (by rw [hm]; simp)], rfl⟩
 | true =>
  rw [ifp_pos rfl]
  refine ⟨by rw [uB9]; exact Nat.le_of_eq (Nat.zero_add _), ?_⟩
  rw [ht, ifp_pos (by rw [Enc.fscal Ec]; rfl)]
  simp only [e0]
  refine ⟨h0, (by trivial), (by trivial), roomy_small (by omega) (by decide), L, rfl, (by trivial), ⟨rfl, hl⟩, fun _ d hr => ?_, trivial⟩
  obtain ⟨s, _⟩ := d
  obtain rfl : s = uBk L := hr
  have ho : ordC L = uBk L := by rw [ordC, if_pos hm]
  refine ⟨Int.natCast_nonneg _, Int.le_refl _, Int.natCast_nonneg _, Int.le_refl _, by show 0 + L.length * 4 ≤ ((uBk L).flatMap Ec.f).length; rw [uB9]; omega, uBk L, wk_vs ⟨?_, by show L.length = _; exact hs.symm, rfl⟩, L, rfl, (by trivial), ho.symm, rfl⟩
  show List.take (L.length * 4) (List.drop 0 ((uBk L).flatMap Ec.f)) = _
  rw [List.drop_zero, List.take_of_length_le (by rw [uB9]; omega)]
theorem uTm : CcOk PP 24 uXo := call_okF mixed (KLS_ok (cc_cons uQb (cc_cons uN4 (cc_nil)))) rfl ordRStep
abbrev uH5 := Int × Int × Int × uB5 × uB5 × Unit × Unit
abbrev uMf := (List Int) × uB5 × Unit × Int × Unit
abbrev uE3 := uMf × ((List Cd) × uH5 × (List Int) × (List Int) × Unit)
noncomputable def uWu : Tel uMf := .cons 0 (.lst Ei16) (.cons 1 (.slq 0 4) (.cons 2 (.ptr 1) (.ji 3 (.nil))))
noncomputable abbrev uPa := Bk.row (.ji 0 (.ji 1 (.ji 2 (.cons 3 (.slq 2 1) (.cons 4 (.slq 3 1) (.cons 5 (.nilS) (.nil)))))))
noncomputable def uRh : BTel ((List Cd) × uH5 × (List Int) × (List Int) × Unit) := .cons (.rows Ec 42) (.cons uPa (.cons (.rows Eu64 82) (.cons (.rows Ei16 26) (.nil))))
abbrev uDh := Exa × Int × Unit
abbrev uH6 := (List Cd) × uH5 × (List Int) × (List Int) × Unit
abbrev uE0 := (List Cd) × (Int × Int × Int × uB5 × uB5 × (List Int) × Unit) × (List Int) × (List Int) × Unit × Unit
noncomputable abbrev uPb := Bk.row (.ji 0 (.ji 1 (.ji 2 (.cons 3 (.slq 2 1) (.cons 4 (.slq 3 1) (.cons 5 (.own Ei64 4) (.nil)))))))
noncomputable def uLa (R0 : uE3 → uDh → uH6 → Prop) (R1 : uE3 → uDh → uE0 → Prop) : List (Res uE3) := [⟨Exa × Int × Unit, uH6, .cons 0 (.aggW Ex) (.ji 1 (.nil)), .cons (.rows Ec 42) (.cons uPa (.cons (.rows Eu64 82) (.cons (.rows Ei16 26) (.nil)))), R0⟩, ⟨Exa × Int × Unit, uE0, .cons 0 (.aggW Ex) (.ji 1 (.nil)), .cons (.rows Ec 42) (.cons uPb (.cons (.rows Eu64 82) (.cons (.rows Ei16 26) (.cons (.spare) (.nil))))), R1⟩]
abbrev uD0 (q : List Int) (l : Nat × Nat) (k : Int) (L : List Cd) (d r c : Int) (t a : Nat × Nat) (T A : List Int) : uE3 := ((q, l, (), k, ()), L, (d, r, c, t, a, (), ()), T, A, ())
noncomputable abbrev uMg := KLX [(27, uSv), (32, uSn), (20, uSm), (37, uNn), (24, uXo), (26, uLl)] [(9, [(8, exLC)])] [44, 42, 82, 26] [] []
theorem exMNFn (q : List Int) (l : Nat × Nat) (k : Int) (L : List Cd) (d r c : Int) (t a : Nat × Nat) (T A : List Int) (R0 : uE3 → uDh → uH6 → Prop) (R1 : uE3 → uDh → uE0 → Prop) : (callW PP (runW PP uMg 200) 9 (uWu.cells id (q, l, (), k, ())) (stL true (uRh.obs id (L, (d, r, c, t, a, (), ()), T, A, ()))) (fun v st => resAny 4 (uD0 q l k L d r c t a T A) v st (uLa R0 R1))) = ( ∃ l_1, Wv Ei16 q l_1 ∧ true = true ∧ uEx ((l_1, Int.ofNat q.length, ()), ()) ∧ (∀ c_1 d_1, uIx ((l_1, Int.ofNat q.length, ()), ()) c_1 d_1 → ifp (!leInt 0 k) ((∃ (a_2 : Exa), WkL [AV.nilSlice, AV.nilSlice] (Ex.f a_2) ∧ ∃ l_2, Sa Ec L l_2 ∧ ∃ l_3, Sa Eu64 T l_3 ∧ ∃ l_4, Sa Ei16 A l_4 ∧ true = true ∧ R0 (uD0 q l k L d r c t a T A) (a_2, 2, ()) (l_2, (d, r, c, t, a, (), ()), l_3, l_4, ())) ∨ ∃ (a : Exa), WkL [AV.nilSlice, AV.nilSlice] (Ex.f a) ∧ ∃ l, Sa Ec L l ∧ False) (ifp (!leInt k 16777216) ((∃ (a_2 : Exa), WkL [AV.nilSlice, AV.nilSlice] (Ex.f a_2) ∧ ∃ l_2, Sa Ec L l_2 ∧ ∃ l_3, Sa Eu64 T l_3 ∧ ∃ l_4, Sa Ei16 A l_4 ∧ true = true ∧ R0 (uD0 q l k L d r c t a T A) (a_2, 2, ()) (l_2, (d, r, c, t, a, (), ()), l_3, l_4, ())) ∨ ∃ (a : Exa), WkL [AV.nilSlice, AV.nilSlice] (Ex.f a) ∧ ∃ l, Sa Ec L l ∧ False) (∃ l_2, Sa Ec L l_2 ∧ true = true ∧ uEk ((l, ()), l_2, ()) ∧ (∀ c_2 d_2, uIi ((l, ()), l_2, ()) c_2 d_2 → ifp c_2.1 (ifp (eqInt k 0) ((∃ (a_3 : Exa), WkL [AV.nilSlice, AV.nilSlice] (Ex.f a_3) ∧ ∃ l_3, Sa Ec d_2.1 l_3 ∧ ∃ l_4, Sa Eu64 T l_4 ∧ ∃ l_5, Sa Ei16 A l_5 ∧ true = true ∧ R0 (uD0 q l k L d r c t a T A) (a_3, 0, ()) (l_3, (d, r, c, t, a, (), ()), l_4, l_5, ())) ∨ ∃ (a : Exa), WkL [AV.nilSlice, AV.nilSlice] (Ex.f a) ∧ ∃ l, Sa Ec d_2.1 l ∧ False) (true = true ∧ uEi ((k, ()), ()) ∧ (∀ c_3 d_3, uIf ((k, ()), ()) c_3 d_3 → ∃ l_3, Wv Ei16 q l_3 ∧ uCh (l_3, ()) ∧ ∃ l_4, Sa Ec d_2.1 l_4 ∧ true = true ∧ uGq ((l, ()), l_4, ()) ∧ (∀ (c_4 d_4 : List Cd × Unit), uMp ((l, ()), l_4, ()) c_4 d_4 → LoopOk PP 9 95 (loopBody PP 9 8).loop exLC ∧ True ∧ True ∧ ((∃ l, Wv Ec c_4.1 l ∧ False) ∨ (∃ l, Wv Ec c_4.1 l ∧ False) ∨ ∃ l_5, Wv Ec c_4.1 l_5 ∧ ∃ l_6, Sa Eu64 T l_6 ∧ ∃ l_7, Sa Ei16 A l_7 ∧ ∃ l_8, Wv Ei32 (uAa l_3) l_8 ∧ true = true ∧ uFi (((), (), (), (), (), (), (), l_5, Int.ofNat c_4.1.length, 0, ()), (d, r, c, t, a, [], ()), l_6, l_7, (), ((), ()), (l_8, ()), (d_3.1.1, (0, 0), ()), [], ((), [], ()), (), ((), (), ()), ()) ∧ (∀ c_5 d_5, uNi (((), (), (), (), (), (), (), l_5, Int.ofNat c_4.1.length, 0, ()), (d, r, c, t, a, [], ()), l_6, l_7, (), ((), ()), (l_8, ()), (d_3.1.1, (0, 0), ()), [], ((), [], ()), (), ((), (), ()), ()) c_5 d_5 → (∃ l_9, Sa En d_5.2.2.2.2.2.1 l_9 ∧ true = true ∧ uDu (((), ()), (d_5.2.2.2.2.1.1, d_5.2.2.2.2.1.2.1, ()), l_9, ()) ∧ (∀ c_6 d_6, uG4 (((), ()), (d_5.2.2.2.2.1.1, d_5.2.2.2.2.1.2.1, ()), l_9, ()) c_6 d_6 → (∃ (a : Exa), WkL [AV.vs (List.flatMap En.f c_6.1) c_6.1.length c_6.1.length false none 2, AV.vs (List.flatMap En.f d_5.2.2.2.2.2.2.1.2.1) d_5.2.2.2.2.2.2.1.2.1.length d_5.2.2.2.2.2.2.1.2.1.length false (some 13) 2] (Ex.f a) ∧ ∃ l, Sa Ec d_4.1 l ∧ False) ∨ ∃ (a_7 : Exa), WkL [AV.vs (List.flatMap En.f c_6.1) c_6.1.length c_6.1.length false none 2, AV.vs (List.flatMap En.f d_5.2.2.2.2.2.2.1.2.1) d_5.2.2.2.2.2.2.1.2.1.length d_5.2.2.2.2.2.2.1.2.1.length false (some 13) 2] (Ex.f a_7) ∧ ∃ l_10, Sa Ec d_4.1 l_10 ∧ ∃ l_11, Ow Ei64 d_5.1.2.2.2.2.2.1 l_11 1 ∧ ∃ l_12, Sa Eu64 d_5.2.1 l_12 ∧ ∃ l_13, Sa Ei16 d_5.2.2.1 l_13 ∧ true = true ∧ R1 (uD0 q l k L d r c t a T A) (a_7, 0, ()) (l_10, (d_5.1.1, d_5.1.2.1, d_5.1.2.2.1, d_5.1.2.2.2.1, d_5.1.2.2.2.2.1, l_11, ()), l_12, l_13, (), ())) ∧ True) ∨ False) ∧ (∀ c_5 d_5, uNh (((), (), (), (), (), (), (), l_5, Int.ofNat c_4.1.length, 0, ()), (d, r, c, t, a, [], ()), l_6, l_7, (), ((), ()), (l_8, ()), (d_3.1.1, (0, 0), ()), [], ((), [], ()), (), ((), (), ()), ()) c_5 d_5 → False ∨ true = true ∧ uBt (((), ()), (d_5.2.2.2.2.1.1, (), ()), ()) ∧ (∀ c_6 d_6, uCj (((), ()), (d_5.2.2.2.2.1.1, (), ()), ()) c_6 d_6 → (∃ (a : Exa), WkL [AV.vs (List.flatMap En.f c_6.1) c_6.1.length c_6.1.length false none 2, AV.nilSlice] (Ex.f a) ∧ ∃ l, Sa Ec d_4.1 l ∧ False) ∨ ∃ (a_7 : Exa), WkL [AV.vs (List.flatMap En.f c_6.1) c_6.1.length c_6.1.length false none 2, AV.nilSlice] (Ex.f a_7) ∧ ∃ l_9, Sa Ec d_4.1 l_9 ∧ ∃ l_10, Ow Ei64 d_5.1.2.2.2.2.2.1 l_10 1 ∧ ∃ l_11, Sa Eu64 d_5.2.1 l_11 ∧ ∃ l_12, Sa Ei16 d_5.2.2.1 l_12 ∧ true = true ∧ R1 (uD0 q l k L d r c t a T A) (a_7, 0, ()) (l_9, (d_5.1.1, d_5.1.2.1, d_5.1.2.2.1, d_5.1.2.2.2.1, d_5.1.2.2.2.2.1, l_10, ()), l_11, l_12, (), ())) ∧ True) ∧ (∀ c_5 d_5, uNg (((), (), (), (), (), (), (), l_5, Int.ofNat c_4.1.length, 0, ()), (d, r, c, t, a, [], ()), l_6, l_7, (), ((), ()), (l_8, ()), (d_3.1.1, (0, 0), ()), [], ((), [], ()), (), ((), (), ()), ()) c_5 d_5 → False ∨ true = true ∧ uBt (((), ()), (d_5.2.2.2.1.1, (), ()), ()) ∧ (∀ c_6 d_6, uCj (((), ()), (d_5.2.2.2.1.1, (), ()), ()) c_6 d_6 → (∃ (a_7 : Exa), WkL [AV.vs (List.flatMap En.f c_6.1) c_6.1.length c_6.1.length false none 2, AV.nilSlice] (Ex.f a_7) ∧ ∃ l_9, Sa Ec d_4.1 l_9 ∧ ∃ l_10, Sa Eu64 d_5.2.1 l_10 ∧ ∃ l_11, Sa Ei16 d_5.2.2.1 l_11 ∧ true = true ∧ R0 (uD0 q l k L d r c t a T A) (a_7, 0, ()) (l_9, (d_5.1.1, d_5.1.2.1, d_5.1.2.2.1, d_5.1.2.2.2.1, d_5.1.2.2.2.2.1, (), ()), l_10, l_11, ())) ∨ ∃ (a : Exa), WkL [AV.vs (List.flatMap En.f c_6.1) c_6.1.length c_6.1.length false none 2, AV.nilSlice] (Ex.f a) ∧ ∃ l, Sa Ec d_4.1 l ∧ False) ∧ True) ∧ (∀ c_5 d_5, uNf (((), (), (), (), (), (), (), l_5, Int.ofNat c_4.1.length, 0, ()), (d, r, c, t, a, [], ()), l_6, l_7, (), ((), ()), (l_8, ()), (d_3.1.1, (0, 0), ()), [], ((), [], ()), (), ((), (), ()), ()) c_5 d_5 → (∃ (a : Exa), WkL [AV.nilSlice, AV.nilSlice] (Ex.f a) ∧ ∃ l, Sa Ec d_4.1 l ∧ False) ∨ ∃ (a_6 : Exa), WkL [AV.nilSlice, AV.nilSlice] (Ex.f a_6) ∧ ∃ l_9, Sa Ec d_4.1 l_9 ∧ ∃ l_10, Ow Ei64 d_5.1.2.2.2.2.2.1 l_10 1 ∧ ∃ l_11, Sa Eu64 d_5.2.1 l_11 ∧ ∃ l_12, Sa Ei16 d_5.2.2.1 l_12 ∧ true = true ∧ R1 (uD0 q l k L d r c t a T A) (a_6, c_5.2.1, ()) (l_9, (d_5.1.1, d_5.1.2.1, d_5.1.2.2.1, d_5.1.2.2.2.1, d_5.1.2.2.2.2.1, l_10, ()), l_11, l_12, (), ())) ∧ (∀ (c_5 : Unit × Int × Unit) (d_5 : uH5 × List Int × List Int × (Unit × Unit × Unit) × Unit), (d_5.1.1 = d ∧ d_5.1.2.1 = r ∧ d_5.1.2.2.1 = c ∧ d_5.1.2.2.2.1 = t ∧ d_5.1.2.2.2.2.1 = a ∧ d_5.2.1 = l_6 ∧ d_5.2.2.1 = l_7 ∧ c_5.2.1 ≠ 0 ∧ ∀ (V : List (List Int)) (L : List Near), SlOk d r c t a l_6 l_7 V → TopOk d_3.1.1 [] L → exF l_8 V d_3.1.1 l_5 L [] = (([], []), c_5.2.1)) → (∃ (a_6 : Exa), WkL [AV.nilSlice, AV.nilSlice] (Ex.f a_6) ∧ ∃ l_9, Sa Ec d_4.1 l_9 ∧ ∃ l_10, Sa Eu64 d_5.2.1 l_10 ∧ ∃ l_11, Sa Ei16 d_5.2.2.1 l_11 ∧ true = true ∧ R0 (uD0 q l k L d r c t a T A) (a_6, c_5.2.1, ()) (l_9, (d_5.1.1, d_5.1.2.1, d_5.1.2.2.1, d_5.1.2.2.2.1, d_5.1.2.2.2.2.1, (), ()), l_10, l_11, ())) ∨ ∃ (a : Exa), WkL [AV.nilSlice, AV.nilSlice] (Ex.f a) ∧ ∃ l, Sa Ec d_4.1 l ∧ False) ∧ True)) ∧ True) ∧ True)) ((∃ (a_3 : Exa), WkL [AV.nilSlice, AV.nilSlice] (Ex.f a_3) ∧ ∃ l_3, Sa Ec d_2.1 l_3 ∧ ∃ l_4, Sa Eu64 T l_4 ∧ ∃ l_5, Sa Ei16 A l_5 ∧ true = true ∧ R0 (uD0 q l k L d r c t a T A) (a_3, 2, ()) (l_3, (d, r, c, t, a, (), ()), l_4, l_5, ())) ∨ ∃ (a : Exa), WkL [AV.nilSlice, AV.nilSlice] (Ex.f a) ∧ ∃ l, Sa Ec d_2.1 l ∧ False)) ∧ True))) ∧ (∀ c_1 d_1, uIw ((l_1, Int.ofNat q.length, ()), ()) c_1 d_1 → (∃ (a_2 : Exa), WkL [AV.nilSlice, AV.nilSlice] (Ex.f a_2) ∧ ∃ l_2, Sa Ec L l_2 ∧ ∃ l_3, Sa Eu64 T l_3 ∧ ∃ l_4, Sa Ei16 A l_4 ∧ true = true ∧ R0 (uD0 q l k L d r c t a T A) (a_2, Int.ofNat 2, ()) (l_2, (d, r, c, t, a, (), ()), l_3, l_4, ())) ∨ ∃ (a : Exa), WkL [AV.nilSlice, AV.nilSlice] (Ex.f a) ∧ ∃ l, Sa Ec L l ∧ False) ∧ True) := by kernel_rfl
def uEt : uE3 → Prop := fun ((q, l, (), k, ()), L, (d, r, c, t, a, (), ()), T, A, ()) => l = (L.length, L.length) ∧ q.length ≤ 2000 ∧ 0 < L.length ∧ L.length ≤ 60 ∧ (∀ u ∈ L, u.2.2.2.1 < 9223372036854775808) ∧ (∃ V, SlOk d r c t a T A V)
def uIq : uE3 → uDh → uH6 → Prop := fun ((q, l, (), k, ()), L, (d, r, c, t, a, (), ()), T, A, ()) (y, e, _) (L2, (d2, r2, c2, t2, a2, _), T2, A2, _) => d2 = d ∧ r2 = r ∧ c2 = c ∧ t2 = t ∧ a2 = a ∧ T2 = T ∧ A2 = A ∧ L2 = L ∧ ∀ V, SlOk d r c t a T A V → ((y.1, y.2.1), e) = exV q L V k
def uIp : uE3 → uDh → uE0 → Prop := fun ((q, l, (), k, ()), L, (d, r, c, t, a, (), ()), T, A, ()) (y, e, _) (L2, (d2, r2, c2, t2, a2, x2, _), T2, A2, _) => d2 = d ∧ r2 = r ∧ c2 = c ∧ t2 = t ∧ a2 = a ∧ T2 = T ∧ A2 = A ∧ x2.length ≤ 60 ∧ L2 = L ∧ ∀ V, SlOk d r c t a T A V → ((y.1, y.2.1), e) = exV q L V k
noncomputable def uXz : CallC := callC 4 uWu uRh uEt (uLa uIq uIp)
theorem exMNStep (z : uE3) (hp : uEt z) : callW PP (runW PP uMg 200) 9 (uWu.cells id z.1) (stL true (uRh.obs id z.2)) (fun v st => resAny 4 z v st (uLa uIq uIp)) := by
 obtain ⟨⟨q, l, _, k, _⟩, ⟨L, ⟨d, r, c, t, a, _, _⟩, T, A, _⟩⟩ := z
 refine (exMNFn q l k L d r c t a T A _ _).mpr ?_
 obtain ⟨rfl, hq, hL0, hl, hs, hV0⟩ := hp
 have NO : ∀ e : Int, e = chkE q L k → (e ≠ 0 ∨ k = 0) → ∀ V, SlOk d r c t a T A V → ((([] : List Near), ([] : List Near)), e) = exV q L V k := fun e h1 h2 V _ => by rw [exV, if_pos (by rw [← h1]; exact h2), h1]
 refine ⟨q, Wk.refl _, rfl, trivial, fun c0 d0 h0 => ?_, fun c0 d0 h0 => ?_, trivial⟩
 case refine_2 =>
  have h0' : vchk q q.length = 2 := h0
  have hc2 : chkE q L k = 2 := by rw [chkE, h0']; rfl
  exact Or.inl ⟨(([] : List Near), ([] : List Near), ()), ⟨wk_nil En, wk_nil En, trivial⟩, L, rfl, T, rfl, A, rfl, rfl, rfl, rfl, rfl, rfl, rfl, rfl, rfl, rfl, NO _ (hc2.symm) (Or.inl (by decide))⟩
 case refine_1 =>
  have h0' : vchk q q.length = 0 := h0
  have hcE : chkE q L k = if k < 0 ∨ 16777216 < k ∨ L.all mayC = false then 2 else 0 := by rw [chkE, if_neg (by rw [h0']; simp)]
  rw [ifp_lt]
  split
  ·rename_i h1
   have hc2 : chkE q L k = 2 := by rw [hcE, if_pos (Or.inl h1)]
   exact Or.inl ⟨(([] : List Near), ([] : List Near), ()), ⟨wk_nil En, wk_nil En, trivial⟩, L, rfl, T, rfl, A, rfl, rfl, rfl, rfl, rfl, rfl, rfl, rfl, rfl, rfl, NO _ (hc2.symm) (Or.inl (by decide))⟩
  ·rename_i h1
   rw [ifp_lt]
   split
   ·rename_i h2
    have hc2 : chkE q L k = 2 := by rw [hcE, if_pos (Or.inr (Or.inl h2))]
    exact Or.inl ⟨(([] : List Near), ([] : List Near), ()), ⟨wk_nil En, wk_nil En, trivial⟩, L, rfl, T, rfl, A, rfl, rfl, rfl, rfl, rfl, rfl, rfl, rfl, rfl, rfl, NO _ (hc2.symm) (Or.inl (by decide))⟩
   ·rename_i h2
    refine ⟨L, rfl, (by trivial), ⟨rfl, by omega⟩, fun cm dm hm2 => ?_, trivial⟩
    obtain ⟨bm, _⟩ := cm
    obtain ⟨Lm, _⟩ := dm
    obtain ⟨hbm, hLm⟩ := hm2
    obtain rfl : L = Lm := hLm.symm
    obtain rfl : bm = L.all mayC := hbm
    dsimp only
    cases hm : L.all mayC with
    | false =>
     rw [ifp_neg rfl]
     have hc2 : chkE q L k = 2 := by rw [hcE, if_pos (Or.inr (Or.inr hm))]
     exact Or.inl ⟨(([] : List Near), ([] : List Near), ()), ⟨wk_nil En, wk_nil En, trivial⟩, L, rfl, T, rfl, A, rfl, rfl, rfl, rfl, rfl, rfl, rfl, rfl, rfl, rfl, NO _ (hc2.symm) (Or.inl (by decide))⟩
    | true =>
     rw [ifp_pos rfl, ifp_eq]
     have hce : chkE q L k = 0 := by rw [hcE, if_neg (by rw [hm]; simp; omega)]
     split
     ·rename_i h3
      exact Or.inl ⟨(([] : List Near), ([] : List Near), ()), ⟨wk_nil En, wk_nil En, trivial⟩, L, rfl, T, rfl, A, rfl, rfl, rfl, rfl, rfl, rfl, rfl, rfl, rfl, rfl, NO _ (hce.symm) (Or.inr h3)⟩
     ·rename_i hk
      have k0 : 0 ≤ k := by omega
      have k1 : k ≤ 16777216 := by omega
      have EX : ∀ V, exV q L V k = exF (uAa q) V k (ordC L) [] [] := fun V => by rw [exV, if_neg (by rw [hce]; rintro (h9 | h9); exact h9 rfl; exact hk h9)]
      have hol := uPz L
      obtain ⟨V0, hV0⟩ := hV0
      refine ⟨rfl, ⟨k0, k1⟩, fun c1 d1 h1 => ?_, trivial⟩
      obtain ⟨⟨k1, _, _⟩, _⟩ := d1
      obtain rfl : k = k1 := Eq.symm h1
      have kp : 0 < k := by omega
      refine ⟨q, Wk.refl _, by show q.length ≤ 1000000; omega, L, rfl, (by trivial), ⟨rfl, hL0, by omega⟩, fun co dO ho => ?_, trivial⟩
      obtain ⟨oo, _⟩ := co
      obtain ⟨Lo, _⟩ := dO
      obtain ⟨hoo, hLo⟩ := ho
      obtain rfl : L = Lo := hLo.symm
      obtain rfl : oo = ordC L := hoo
      refine ⟨uX0, trivial, trivial, ?_⟩
      refine Or.inr (Or.inr ⟨ordC L, Wk.refl _, T, rfl, A, rfl, uAa q, Wk.refl _, rfl, ⟨0, V0, [], rfl, rfl, Nat.zero_le _, by omega, fun u hu => hs u (uMq hu), hV0, kp, rfl, TopOk.none (Int.le_of_lt kp), Nat.zero_le _, Nat.zero_le _, Nat.zero_le _⟩, fun cc dd hh => ?_, fun cc dd hh => ?_, fun cc dd hh => ?_, fun cc dd hh => ?_, fun cc dd hh => ?_, trivial⟩)
      ·skip
       obtain ⟨⟨d2, r2, c2, t2, a2, x2, _⟩, T2, A2, _, ⟨k2, h2, _⟩, m2, ⟨_, R2, _⟩, _⟩ := dd
       obtain ⟨g1, g2, g3, g4, g5, g6, g7, gx, gk, gh, gm, gE⟩ := hh
       obtain rfl : d = d2 := g1.symm
       obtain rfl : r = r2 := g2.symm
       obtain rfl : c = c2 := g3.symm
       obtain rfl : t = t2 := g4.symm
       obtain rfl : a = a2 := g5.symm
       obtain rfl : T = T2 := g6.symm
       obtain rfl : A = A2 := g7.symm
       have gx2 : x2.length + 0 ≤ 0 + (ordC L).length := gx
       refine Or.inl ⟨m2, rfl, rfl, ⟨gh, by show m2.length ≤ _; omega⟩, fun c3 d3 h3 => ?_, trivial⟩
       obtain ⟨o3, _⟩ := c3
       obtain ⟨⟨k3, h3', _⟩, m3, _⟩ := d3
       obtain ⟨ho, _⟩ := h3
       obtain rfl : o3 = uAi m2 := ho
       exact Or.inr ⟨(uAi m2, R2, ()), ⟨Wk.refl _, wk_of_own, trivial⟩, L, rfl, x2, ⟨WkL.refl _, rfl, rfl⟩, T, rfl, A, rfl, rfl, rfl, rfl, rfl, rfl, rfl, rfl, rfl, by show x2.length ≤ 60; omega, rfl, fun V hV => by
        obtain ⟨L2, y1, y2⟩ := gE V [] hV (TopOk.none (Int.le_of_lt kp))
        rw [EX]
        have y3 : exF (uAa q) V k (ordC L) [] [] = ((L2, R2), 0) := y2
        rw [y3, y1.list]⟩
      ·skip
       obtain ⟨⟨d2, r2, c2, t2, a2, x2, _⟩, T2, A2, _⟩ := dd
       obtain ⟨g1, g2, g3, g4, g5, g6, g7, gx, gE⟩ := hh
       obtain rfl : d = d2 := g1.symm
       obtain rfl : r = r2 := g2.symm
       obtain rfl : c = c2 := g3.symm
       obtain rfl : t = t2 := g4.symm
       obtain rfl : a = a2 := g5.symm
       obtain rfl : T = T2 := g6.symm
       obtain rfl : A = A2 := g7.symm
       have gx2 : x2.length + 0 ≤ 0 + (ordC L).length := gx
       refine Or.inr ⟨rfl, trivial, fun c3 d3 h3 => ?_, trivial⟩
       obtain ⟨o3, _⟩ := c3
       obtain ⟨⟨k3, _, _⟩, _⟩ := d3
       obtain ⟨ho, _⟩ := h3
       obtain rfl : o3 = [] := ho
       exact Or.inr ⟨(([] : List Near), ([] : List Near), ()), ⟨Wk.refl _, wk_nil En, trivial⟩, L, rfl, x2, ⟨WkL.refl _, rfl, rfl⟩, T, rfl, A, rfl, rfl, rfl, rfl, rfl, rfl, rfl, rfl, rfl, by show x2.length ≤ 60; omega, rfl, fun V hV => by rw [EX]; exact (gE V [] hV (TopOk.none (Int.le_of_lt kp))).symm⟩
      ·skip
       obtain ⟨⟨d2, r2, c2, t2, a2, _⟩, T2, A2, _⟩ := dd
       obtain ⟨g1, g2, g3, g4, g5, g6, g7, gE⟩ := hh
       obtain rfl : d = d2 := g1.symm
       obtain rfl : r = r2 := g2.symm
       obtain rfl : c = c2 := g3.symm
       obtain rfl : t = t2 := g4.symm
       obtain rfl : a = a2 := g5.symm
       obtain rfl : T = T2 := g6.symm
       obtain rfl : A = A2 := g7.symm
       refine Or.inr ⟨rfl, trivial, fun c3 d3 h3 => ?_, trivial⟩
       obtain ⟨o3, _⟩ := c3
       obtain ⟨⟨k3, _, _⟩, _⟩ := d3
       obtain ⟨ho, _⟩ := h3
       obtain rfl : o3 = [] := ho
       exact Or.inl ⟨(([] : List Near), ([] : List Near), ()), ⟨Wk.refl _, wk_nil En, trivial⟩, L, rfl, T, rfl, A, rfl, rfl, rfl, rfl, rfl, rfl, rfl, rfl, rfl, rfl, fun V hV => by rw [EX]; exact (gE V [] hV (TopOk.none (Int.le_of_lt kp))).symm⟩
      ·skip
       obtain ⟨_, e9, _⟩ := cc
       obtain ⟨⟨d2, r2, c2, t2, a2, x2, _⟩, T2, A2, _⟩ := dd
       obtain ⟨g1, g2, g3, g4, g5, g6, g7, gx, ge, gE⟩ := hh
       obtain rfl : d = d2 := g1.symm
       obtain rfl : r = r2 := g2.symm
       obtain rfl : c = c2 := g3.symm
       obtain rfl : t = t2 := g4.symm
       obtain rfl : a = a2 := g5.symm
       obtain rfl : T = T2 := g6.symm
       obtain rfl : A = A2 := g7.symm
       have gx2 : x2.length + 0 ≤ 0 + (ordC L).length := gx
       exact Or.inr ⟨(([] : List Near), ([] : List Near), ()), ⟨wk_nil En, wk_nil En, trivial⟩, L, rfl, x2, ⟨WkL.refl _, rfl, rfl⟩, T, rfl, A, rfl, rfl, rfl, rfl, rfl, rfl, rfl, rfl, rfl, by show x2.length ≤ 60; omega, rfl, fun V hV => by rw [EX]; exact (gE V [] hV (TopOk.none (Int.le_of_lt kp))).symm⟩
      ·skip
       obtain ⟨_, e9, _⟩ := cc
       obtain ⟨⟨d2, r2, c2, t2, a2, _⟩, T2, A2, _⟩ := dd
       obtain ⟨g1, g2, g3, g4, g5, g6, g7, ge, gE⟩ := hh
       obtain rfl : d = d2 := g1.symm
       obtain rfl : r = r2 := g2.symm
       obtain rfl : c = c2 := g3.symm
       obtain rfl : t = t2 := g4.symm
       obtain rfl : a = a2 := g5.symm
       obtain rfl : T = T2 := g6.symm
       obtain rfl : A = A2 := g7.symm
       exact Or.inl ⟨(([] : List Near), ([] : List Near), ()), ⟨wk_nil En, wk_nil En, trivial⟩, L, rfl, T, rfl, A, rfl, rfl, rfl, rfl, rfl, rfl, rfl, rfl, rfl, rfl, fun V hV => by rw [EX]; exact (gE V [] hV (TopOk.none (Int.le_of_lt kp))).symm⟩
theorem exMNCc : CcOk PP 9 uXz := call_ok mixed (KLX_ok (cc_cons uR0 (cc_cons uQb (cc_cons uP7 (cc_cons uHv (cc_cons uTm (cc_cons uI1 (cc_nil)))))))) rfl exMNStep
abbrev uE2 := uMf × uE0
noncomputable def uWt : Tel uMf := .cons 0 (.lst Ei16) (.cons 1 (.slq 0 4) (.cons 2 (.ptr 1) (.ji 3 (.nil))))
noncomputable def uRg : BTel uE0 := .cons (.rows Ec 42) (.cons uPb (.cons (.rows Eu64 82) (.cons (.rows Ei16 26) (.cons (.spare) (.nil)))))
noncomputable def uK9 (R0 : uE2 → uDh → uH6 → Prop) (R1 : uE2 → uDh → uE0 → Prop) : List (Res uE2) := [⟨Exa × Int × Unit, uH6, .cons 0 (.aggW Ex) (.ji 1 (.nil)), .cons (.rows Ec 42) (.cons uPa (.cons (.rows Eu64 82) (.cons (.rows Ei16 26) (.nil)))), R0⟩, ⟨Exa × Int × Unit, uE0, .cons 0 (.aggW Ex) (.ji 1 (.nil)), .cons (.rows Ec 42) (.cons uPb (.cons (.rows Eu64 82) (.cons (.rows Ei16 26) (.cons (.spare) (.nil))))), R1⟩]
abbrev uDz (q : List Int) (l : Nat × Nat) (k : Int) (L : List Cd) (d r c : Int) (t a : Nat × Nat) (x T A : List Int) : uE2 := ((q, l, (), k, ()), L, (d, r, c, t, a, x, ()), T, A, (), ())
theorem exMOFn (q : List Int) (l : Nat × Nat) (k : Int) (L : List Cd) (d r c : Int) (t a : Nat × Nat) (x T A : List Int) (R0 : uE2 → uDh → uH6 → Prop) (R1 : uE2 → uDh → uE0 → Prop) : (callW PP (runW PP uMg 200) 9 (uWt.cells id (q, l, (), k, ())) (stL true (uRg.obs id (L, (d, r, c, t, a, x, ()), T, A, (), ()))) (fun v st => resAny 4 (uDz q l k L d r c t a x T A) v st (uK9 R0 R1))) = ( ∃ l_1, Wv Ei16 q l_1 ∧ true = true ∧ uEx ((l_1, Int.ofNat q.length, ()), ()) ∧ (∀ c_1 d_1, uIx ((l_1, Int.ofNat q.length, ()), ()) c_1 d_1 → ifp (!leInt 0 k) ((∃ (a : Exa), WkL [AV.nilSlice, AV.nilSlice] (Ex.f a) ∧ ∃ l, Sa Ec L l ∧ False) ∨ ∃ (a_2 : Exa), WkL [AV.nilSlice, AV.nilSlice] (Ex.f a_2) ∧ ∃ l_2, Sa Ec L l_2 ∧ ∃ l_3, Ow Ei64 x l_3 1 ∧ ∃ l_4, Sa Eu64 T l_4 ∧ ∃ l_5, Sa Ei16 A l_5 ∧ true = true ∧ R1 (uDz q l k L d r c t a x T A) (a_2, 2, ()) (l_2, (d, r, c, t, a, l_3, ()), l_4, l_5, (), ())) (ifp (!leInt k 16777216) ((∃ (a : Exa), WkL [AV.nilSlice, AV.nilSlice] (Ex.f a) ∧ ∃ l, Sa Ec L l ∧ False) ∨ ∃ (a_2 : Exa), WkL [AV.nilSlice, AV.nilSlice] (Ex.f a_2) ∧ ∃ l_2, Sa Ec L l_2 ∧ ∃ l_3, Ow Ei64 x l_3 1 ∧ ∃ l_4, Sa Eu64 T l_4 ∧ ∃ l_5, Sa Ei16 A l_5 ∧ true = true ∧ R1 (uDz q l k L d r c t a x T A) (a_2, 2, ()) (l_2, (d, r, c, t, a, l_3, ()), l_4, l_5, (), ())) (∃ l_2, Sa Ec L l_2 ∧ true = true ∧ uEk ((l, ()), l_2, ()) ∧ (∀ c_2 d_2, uIi ((l, ()), l_2, ()) c_2 d_2 → ifp c_2.1 (ifp (eqInt k 0) ((∃ (a : Exa), WkL [AV.nilSlice, AV.nilSlice] (Ex.f a) ∧ ∃ l, Sa Ec d_2.1 l ∧ False) ∨ ∃ (a_3 : Exa), WkL [AV.nilSlice, AV.nilSlice] (Ex.f a_3) ∧ ∃ l_3, Sa Ec d_2.1 l_3 ∧ ∃ l_4, Ow Ei64 x l_4 1 ∧ ∃ l_5, Sa Eu64 T l_5 ∧ ∃ l_6, Sa Ei16 A l_6 ∧ true = true ∧ R1 (uDz q l k L d r c t a x T A) (a_3, 0, ()) (l_3, (d, r, c, t, a, l_4, ()), l_5, l_6, (), ())) (true = true ∧ uEi ((k, ()), ()) ∧ (∀ c_3 d_3, uIf ((k, ()), ()) c_3 d_3 → ∃ l_3, Wv Ei16 q l_3 ∧ uCh (l_3, ()) ∧ ∃ l_4, Sa Ec d_2.1 l_4 ∧ true = true ∧ uGq ((l, ()), l_4, ()) ∧ (∀ (c_4 d_4 : List Cd × Unit), uMp ((l, ()), l_4, ()) c_4 d_4 → LoopOk PP 9 95 (loopBody PP 9 8).loop exLC ∧ True ∧ True ∧ ((∃ l, Wv Ec c_4.1 l ∧ ∃ l, Ow Ei64 x l 1 ∧ ∃ l, Sa Eu64 T l ∧ ∃ l, Sa Ei16 A l ∧ ∃ l, Wv Ei32 (uAa l_3) l ∧ False) ∨ (∃ l_5, Wv Ec c_4.1 l_5 ∧ ∃ l_6, Ow Ei64 x l_6 1 ∧ ∃ l_7, Sa Eu64 T l_7 ∧ ∃ l_8, Sa Ei16 A l_8 ∧ ∃ l_9, Wv Ei32 (uAa l_3) l_9 ∧ true = true ∧ uFi (((), (), (), (), (), (), (), l_5, Int.ofNat c_4.1.length, 0, ()), (d, r, c, t, a, l_6, ()), l_7, l_8, (), ((), ()), (l_9, ()), (d_3.1.1, (0, 0), ()), [], ((), [], ()), (), ((), (), ()), ()) ∧ (∀ c_5 d_5, uNi (((), (), (), (), (), (), (), l_5, Int.ofNat c_4.1.length, 0, ()), (d, r, c, t, a, l_6, ()), l_7, l_8, (), ((), ()), (l_9, ()), (d_3.1.1, (0, 0), ()), [], ((), [], ()), (), ((), (), ()), ()) c_5 d_5 → (∃ l_10, Sa En d_5.2.2.2.2.2.1 l_10 ∧ true = true ∧ uDu (((), ()), (d_5.2.2.2.2.1.1, d_5.2.2.2.2.1.2.1, ()), l_10, ()) ∧ (∀ c_6 d_6, uG4 (((), ()), (d_5.2.2.2.2.1.1, d_5.2.2.2.2.1.2.1, ()), l_10, ()) c_6 d_6 → (∃ (a : Exa), WkL [AV.vs (List.flatMap En.f c_6.1) c_6.1.length c_6.1.length false none 2, AV.vs (List.flatMap En.f d_5.2.2.2.2.2.2.1.2.1) d_5.2.2.2.2.2.2.1.2.1.length d_5.2.2.2.2.2.2.1.2.1.length false (some 14) 2] (Ex.f a) ∧ ∃ l, Sa Ec d_4.1 l ∧ False) ∨ ∃ (a_7 : Exa), WkL [AV.vs (List.flatMap En.f c_6.1) c_6.1.length c_6.1.length false none 2, AV.vs (List.flatMap En.f d_5.2.2.2.2.2.2.1.2.1) d_5.2.2.2.2.2.2.1.2.1.length d_5.2.2.2.2.2.2.1.2.1.length false (some 14) 2] (Ex.f a_7) ∧ ∃ l_11, Sa Ec d_4.1 l_11 ∧ ∃ l_12, Ow Ei64 d_5.1.2.2.2.2.2.1 l_12 1 ∧ ∃ l_13, Sa Eu64 d_5.2.1 l_13 ∧ ∃ l_14, Sa Ei16 d_5.2.2.1 l_14 ∧ true = true ∧ R1 (uDz q l k L d r c t a x T A) (a_7, 0, ()) (l_11, (d_5.1.1, d_5.1.2.1, d_5.1.2.2.1, d_5.1.2.2.2.1, d_5.1.2.2.2.2.1, l_12, ()), l_13, l_14, (), ())) ∧ True) ∨ False) ∧ (∀ c_5 d_5, uNh (((), (), (), (), (), (), (), l_5, Int.ofNat c_4.1.length, 0, ()), (d, r, c, t, a, l_6, ()), l_7, l_8, (), ((), ()), (l_9, ()), (d_3.1.1, (0, 0), ()), [], ((), [], ()), (), ((), (), ()), ()) c_5 d_5 → False ∨ true = true ∧ uBt (((), ()), (d_5.2.2.2.2.1.1, (), ()), ()) ∧ (∀ c_6 d_6, uCj (((), ()), (d_5.2.2.2.2.1.1, (), ()), ()) c_6 d_6 → (∃ (a : Exa), WkL [AV.vs (List.flatMap En.f c_6.1) c_6.1.length c_6.1.length false none 2, AV.nilSlice] (Ex.f a) ∧ ∃ l, Sa Ec d_4.1 l ∧ False) ∨ ∃ (a_7 : Exa), WkL [AV.vs (List.flatMap En.f c_6.1) c_6.1.length c_6.1.length false none 2, AV.nilSlice] (Ex.f a_7) ∧ ∃ l_10, Sa Ec d_4.1 l_10 ∧ ∃ l_11, Ow Ei64 d_5.1.2.2.2.2.2.1 l_11 1 ∧ ∃ l_12, Sa Eu64 d_5.2.1 l_12 ∧ ∃ l_13, Sa Ei16 d_5.2.2.1 l_13 ∧ true = true ∧ R1 (uDz q l k L d r c t a x T A) (a_7, 0, ()) (l_10, (d_5.1.1, d_5.1.2.1, d_5.1.2.2.1, d_5.1.2.2.2.1, d_5.1.2.2.2.2.1, l_11, ()), l_12, l_13, (), ())) ∧ True) ∧ (∀ c_5 d_5, uNg (((), (), (), (), (), (), (), l_5, Int.ofNat c_4.1.length, 0, ()), (d, r, c, t, a, l_6, ()), l_7, l_8, (), ((), ()), (l_9, ()), (d_3.1.1, (0, 0), ()), [], ((), [], ()), (), ((), (), ()), ()) c_5 d_5 → False ∨ true = true ∧ uBt (((), ()), (d_5.2.2.2.1.1, (), ()), ()) ∧ (∀ c_6 d_6, uCj (((), ()), (d_5.2.2.2.1.1, (), ()), ()) c_6 d_6 → (∃ (a_7 : Exa), WkL [AV.vs (List.flatMap En.f c_6.1) c_6.1.length c_6.1.length false none 2, AV.nilSlice] (Ex.f a_7) ∧ ∃ l_10, Sa Ec d_4.1 l_10 ∧ ∃ l_11, Sa Eu64 d_5.2.1 l_11 ∧ ∃ l_12, Sa Ei16 d_5.2.2.1 l_12 ∧ true = true ∧ R0 (uDz q l k L d r c t a x T A) (a_7, 0, ()) (l_10, (d_5.1.1, d_5.1.2.1, d_5.1.2.2.1, d_5.1.2.2.2.1, d_5.1.2.2.2.2.1, (), ()), l_11, l_12, ())) ∨ ∃ (a : Exa), WkL [AV.vs (List.flatMap En.f c_6.1) c_6.1.length c_6.1.length false none 2, AV.nilSlice] (Ex.f a) ∧ ∃ l, Sa Ec d_4.1 l ∧ False) ∧ True) ∧ (∀ c_5 d_5, uNf (((), (), (), (), (), (), (), l_5, Int.ofNat c_4.1.length, 0, ()), (d, r, c, t, a, l_6, ()), l_7, l_8, (), ((), ()), (l_9, ()), (d_3.1.1, (0, 0), ()), [], ((), [], ()), (), ((), (), ()), ()) c_5 d_5 → (∃ (a : Exa), WkL [AV.nilSlice, AV.nilSlice] (Ex.f a) ∧ ∃ l, Sa Ec d_4.1 l ∧ False) ∨ ∃ (a_6 : Exa), WkL [AV.nilSlice, AV.nilSlice] (Ex.f a_6) ∧ ∃ l_10, Sa Ec d_4.1 l_10 ∧ ∃ l_11, Ow Ei64 d_5.1.2.2.2.2.2.1 l_11 1 ∧ ∃ l_12, Sa Eu64 d_5.2.1 l_12 ∧ ∃ l_13, Sa Ei16 d_5.2.2.1 l_13 ∧ true = true ∧ R1 (uDz q l k L d r c t a x T A) (a_6, c_5.2.1, ()) (l_10, (d_5.1.1, d_5.1.2.1, d_5.1.2.2.1, d_5.1.2.2.2.1, d_5.1.2.2.2.2.1, l_11, ()), l_12, l_13, (), ())) ∧ (∀ (c_5 : Unit × Int × Unit) (d_5 : uH5 × List Int × List Int × (Unit × Unit × Unit) × Unit), (d_5.1.1 = d ∧ d_5.1.2.1 = r ∧ d_5.1.2.2.1 = c ∧ d_5.1.2.2.2.1 = t ∧ d_5.1.2.2.2.2.1 = a ∧ d_5.2.1 = l_7 ∧ d_5.2.2.1 = l_8 ∧ c_5.2.1 ≠ 0 ∧ ∀ (V : List (List Int)) (L : List Near), SlOk d r c t a l_7 l_8 V → TopOk d_3.1.1 [] L → exF l_9 V d_3.1.1 l_5 L [] = (([], []), c_5.2.1)) → (∃ (a_6 : Exa), WkL [AV.nilSlice, AV.nilSlice] (Ex.f a_6) ∧ ∃ l_10, Sa Ec d_4.1 l_10 ∧ ∃ l_11, Sa Eu64 d_5.2.1 l_11 ∧ ∃ l_12, Sa Ei16 d_5.2.2.1 l_12 ∧ true = true ∧ R0 (uDz q l k L d r c t a x T A) (a_6, c_5.2.1, ()) (l_10, (d_5.1.1, d_5.1.2.1, d_5.1.2.2.1, d_5.1.2.2.2.1, d_5.1.2.2.2.2.1, (), ()), l_11, l_12, ())) ∨ ∃ (a : Exa), WkL [AV.nilSlice, AV.nilSlice] (Ex.f a) ∧ ∃ l, Sa Ec d_4.1 l ∧ False) ∧ True) ∨ ∃ l, Wv Ec c_4.1 l ∧ False)) ∧ True) ∧ True)) ((∃ (a : Exa), WkL [AV.nilSlice, AV.nilSlice] (Ex.f a) ∧ ∃ l, Sa Ec d_2.1 l ∧ False) ∨ ∃ (a_3 : Exa), WkL [AV.nilSlice, AV.nilSlice] (Ex.f a_3) ∧ ∃ l_3, Sa Ec d_2.1 l_3 ∧ ∃ l_4, Ow Ei64 x l_4 1 ∧ ∃ l_5, Sa Eu64 T l_5 ∧ ∃ l_6, Sa Ei16 A l_6 ∧ true = true ∧ R1 (uDz q l k L d r c t a x T A) (a_3, 2, ()) (l_3, (d, r, c, t, a, l_4, ()), l_5, l_6, (), ()))) ∧ True))) ∧ (∀ c_1 d_1, uIw ((l_1, Int.ofNat q.length, ()), ()) c_1 d_1 → (∃ (a : Exa), WkL [AV.nilSlice, AV.nilSlice] (Ex.f a) ∧ ∃ l, Sa Ec L l ∧ False) ∨ ∃ (a_2 : Exa), WkL [AV.nilSlice, AV.nilSlice] (Ex.f a_2) ∧ ∃ l_2, Sa Ec L l_2 ∧ ∃ l_3, Ow Ei64 x l_3 1 ∧ ∃ l_4, Sa Eu64 T l_4 ∧ ∃ l_5, Sa Ei16 A l_5 ∧ true = true ∧ R1 (uDz q l k L d r c t a x T A) (a_2, Int.ofNat 2, ()) (l_2, (d, r, c, t, a, l_3, ()), l_4, l_5, (), ())) ∧ True) := by kernel_rfl
def uHm : uE2 → Prop := fun ((q, l, (), k, ()), L, (d, r, c, t, a, x, ()), T, A, (), ()) => l = (L.length, L.length) ∧ q.length ≤ 2000 ∧ 0 < L.length ∧ L.length ≤ 60 ∧ (∀ u ∈ L, u.2.2.2.1 < 9223372036854775808) ∧ (∃ V, SlOk d r c t a T A V) ∧ x.length ≤ 999000
def uM1 : uE2 → uDh → uH6 → Prop := fun ((q, l, (), k, ()), L, (d, r, c, t, a, x, ()), T, A, (), ()) (y, e, _) (L2, (d2, r2, c2, t2, a2, _), T2, A2, _) => d2 = d ∧ r2 = r ∧ c2 = c ∧ t2 = t ∧ a2 = a ∧ T2 = T ∧ A2 = A ∧ L2 = L ∧ ∀ V, SlOk d r c t a T A V → ((y.1, y.2.1), e) = exV q L V k
def uM0 : uE2 → uDh → uE0 → Prop := fun ((q, l, (), k, ()), L, (d, r, c, t, a, x, ()), T, A, (), ()) (y, e, _) (L2, (d2, r2, c2, t2, a2, x2, _), T2, A2, _) => d2 = d ∧ r2 = r ∧ c2 = c ∧ t2 = t ∧ a2 = a ∧ T2 = T ∧ A2 = A ∧ x2.length ≤ x.length + 60 ∧ L2 = L ∧ ∀ V, SlOk d r c t a T A V → ((y.1, y.2.1), e) = exV q L V k
noncomputable def uXy : CallC := callC 4 uWt uRg uHm (uK9 uM1 uM0)
theorem exMOStep (z : uE2) (hp : uHm z) : callW PP (runW PP uMg 200) 9 (uWt.cells id z.1) (stL true (uRg.obs id z.2)) (fun v st => resAny 4 z v st (uK9 uM1 uM0)) := by
 obtain ⟨⟨q, l, _, k, _⟩, ⟨L, ⟨d, r, c, t, a, x, _⟩, T, A, _, _⟩⟩ := z
 refine (exMOFn q l k L d r c t a x T A _ _).mpr ?_
 obtain ⟨rfl, hq, hL0, hl, hs, hV0, hx⟩ := hp
 have NO : ∀ e : Int, e = chkE q L k → (e ≠ 0 ∨ k = 0) → ∀ V, SlOk d r c t a T A V → ((([] : List Near), ([] : List Near)), e) = exV q L V k := fun e h1 h2 V _ => by rw [exV, if_pos (by rw [← h1]; exact h2), h1]
 refine ⟨q, Wk.refl _, rfl, trivial, fun c0 d0 h0 => ?_, fun c0 d0 h0 => ?_, trivial⟩
 case refine_2 =>
  have h0' : vchk q q.length = 2 := h0
  have hc2 : chkE q L k = 2 := by rw [chkE, h0']; rfl
  exact Or.inr ⟨(([] : List Near), ([] : List Near), ()), ⟨wk_nil En, wk_nil En, trivial⟩, L, rfl, x, ⟨WkL.refl _, rfl, rfl⟩, T, rfl, A, rfl, rfl, rfl, rfl, rfl, rfl, rfl, rfl, rfl, Nat.le_add_right _ _, rfl, NO _ (hc2.symm) (Or.inl (by decide))⟩
 case refine_1 =>
  have h0' : vchk q q.length = 0 := h0
  have hcE : chkE q L k = if k < 0 ∨ 16777216 < k ∨ L.all mayC = false then 2 else 0 := by rw [chkE, if_neg (by rw [h0']; simp)]
  rw [ifp_lt]
  split
  ·rename_i h1
   have hc2 : chkE q L k = 2 := by rw [hcE, if_pos (Or.inl h1)]
   exact Or.inr ⟨(([] : List Near), ([] : List Near), ()), ⟨wk_nil En, wk_nil En, trivial⟩, L, rfl, x, ⟨WkL.refl _, rfl, rfl⟩, T, rfl, A, rfl, rfl, rfl, rfl, rfl, rfl, rfl, rfl, rfl, Nat.le_add_right _ _, rfl, NO _ (hc2.symm) (Or.inl (by decide))⟩
  ·rename_i h1
   rw [ifp_lt]
   split
   ·rename_i h2
    have hc2 : chkE q L k = 2 := by rw [hcE, if_pos (Or.inr (Or.inl h2))]
    exact Or.inr ⟨(([] : List Near), ([] : List Near), ()), ⟨wk_nil En, wk_nil En, trivial⟩, L, rfl, x, ⟨WkL.refl _, rfl, rfl⟩, T, rfl, A, rfl, rfl, rfl, rfl, rfl, rfl, rfl, rfl, rfl, Nat.le_add_right _ _, rfl, NO _ (hc2.symm) (Or.inl (by decide))⟩
   ·rename_i h2
    refine ⟨L, rfl, (by trivial), ⟨rfl, by omega⟩, fun cm dm hm2 => ?_, trivial⟩
    obtain ⟨bm, _⟩ := cm
    obtain ⟨Lm, _⟩ := dm
    obtain ⟨hbm, hLm⟩ := hm2
    obtain rfl : L = Lm := hLm.symm
    obtain rfl : bm = L.all mayC := hbm
    dsimp only
    cases hm : L.all mayC with
    | false =>
     rw [ifp_neg rfl]
     have hc2 : chkE q L k = 2 := by rw [hcE, if_pos (Or.inr (Or.inr hm))]
     exact Or.inr ⟨(([] : List Near), ([] : List Near), ()), ⟨wk_nil En, wk_nil En, trivial⟩, L, rfl, x, ⟨WkL.refl _, rfl, rfl⟩, T, rfl, A, rfl, rfl, rfl, rfl, rfl, rfl, rfl, rfl, rfl, Nat.le_add_right _ _, rfl, NO _ (hc2.symm) (Or.inl (by decide))⟩
    | true =>
     rw [ifp_pos rfl, ifp_eq]
     have hce : chkE q L k = 0 := by rw [hcE, if_neg (by rw [hm]; simp; omega)]
     split
     ·rename_i h3
      exact Or.inr ⟨(([] : List Near), ([] : List Near), ()), ⟨wk_nil En, wk_nil En, trivial⟩, L, rfl, x, ⟨WkL.refl _, rfl, rfl⟩, T, rfl, A, rfl, rfl, rfl, rfl, rfl, rfl, rfl, rfl, rfl, Nat.le_add_right _ _, rfl, NO _ (hce.symm) (Or.inr h3)⟩
     ·rename_i hk
      have k0 : 0 ≤ k := by omega
      have k1 : k ≤ 16777216 := by omega
      have EX : ∀ V, exV q L V k = exF (uAa q) V k (ordC L) [] [] := fun V => by rw [exV, if_neg (by rw [hce]; rintro (h9 | h9); exact h9 rfl; exact hk h9)]
      have hol := uPz L
      obtain ⟨V0, hV0⟩ := hV0
      refine ⟨rfl, ⟨k0, k1⟩, fun c1 d1 h1 => ?_, trivial⟩
      obtain ⟨⟨k1, _, _⟩, _⟩ := d1
      obtain rfl : k = k1 := Eq.symm h1
      have kp : 0 < k := by omega
      refine ⟨q, Wk.refl _, by show q.length ≤ 1000000; omega, L, rfl, (by trivial), ⟨rfl, hL0, by omega⟩, fun co dO ho => ?_, trivial⟩
      obtain ⟨oo, _⟩ := co
      obtain ⟨Lo, _⟩ := dO
      obtain ⟨hoo, hLo⟩ := ho
      obtain rfl : L = Lo := hLo.symm
      obtain rfl : oo = ordC L := hoo
      refine ⟨uX0, trivial, trivial, ?_⟩
      refine Or.inr (Or.inl ⟨ordC L, Wk.refl _, x, ⟨WkL.refl _, rfl, rfl⟩, T, rfl, A, rfl, uAa q, Wk.refl _, rfl, ⟨0, V0, [], rfl, rfl, Nat.zero_le _, by omega, fun u hu => hs u (uMq hu), hV0, kp, rfl, TopOk.none (Int.le_of_lt kp), Nat.zero_le _, Nat.zero_le _, by show x.length ≤ _; omega⟩, fun cc dd hh => ?_, fun cc dd hh => ?_, fun cc dd hh => ?_, fun cc dd hh => ?_, fun cc dd hh => ?_, trivial⟩)
      ·skip
       obtain ⟨⟨d2, r2, c2, t2, a2, x2, _⟩, T2, A2, _, ⟨k2, h2, _⟩, m2, ⟨_, R2, _⟩, _⟩ := dd
       obtain ⟨g1, g2, g3, g4, g5, g6, g7, gx, gk, gh, gm, gE⟩ := hh
       obtain rfl : d = d2 := g1.symm
       obtain rfl : r = r2 := g2.symm
       obtain rfl : c = c2 := g3.symm
       obtain rfl : t = t2 := g4.symm
       obtain rfl : a = a2 := g5.symm
       obtain rfl : T = T2 := g6.symm
       obtain rfl : A = A2 := g7.symm
       have gx2 : x2.length + 0 ≤ x.length + (ordC L).length := gx
       refine Or.inl ⟨m2, rfl, rfl, ⟨gh, by show m2.length ≤ _; omega⟩, fun c3 d3 h3 => ?_, trivial⟩
       obtain ⟨o3, _⟩ := c3
       obtain ⟨⟨k3, h3', _⟩, m3, _⟩ := d3
       obtain ⟨ho, _⟩ := h3
       obtain rfl : o3 = uAi m2 := ho
       exact Or.inr ⟨(uAi m2, R2, ()), ⟨Wk.refl _, wk_of_own, trivial⟩, L, rfl, x2, ⟨WkL.refl _, rfl, rfl⟩, T, rfl, A, rfl, rfl, rfl, rfl, rfl, rfl, rfl, rfl, rfl, by show x2.length ≤ x.length + 60; omega, rfl, fun V hV => by
        obtain ⟨L2, y1, y2⟩ := gE V [] hV (TopOk.none (Int.le_of_lt kp))
        rw [EX]
        have y3 : exF (uAa q) V k (ordC L) [] [] = ((L2, R2), 0) := y2
        rw [y3, y1.list]⟩
      ·skip
       obtain ⟨⟨d2, r2, c2, t2, a2, x2, _⟩, T2, A2, _⟩ := dd
       obtain ⟨g1, g2, g3, g4, g5, g6, g7, gx, gE⟩ := hh
       obtain rfl : d = d2 := g1.symm
       obtain rfl : r = r2 := g2.symm
       obtain rfl : c = c2 := g3.symm
       obtain rfl : t = t2 := g4.symm
       obtain rfl : a = a2 := g5.symm
       obtain rfl : T = T2 := g6.symm
       obtain rfl : A = A2 := g7.symm
       have gx2 : x2.length + 0 ≤ x.length + (ordC L).length := gx
       refine Or.inr ⟨rfl, trivial, fun c3 d3 h3 => ?_, trivial⟩
       obtain ⟨o3, _⟩ := c3
       obtain ⟨⟨k3, _, _⟩, _⟩ := d3
       obtain ⟨ho, _⟩ := h3
       obtain rfl : o3 = [] := ho
       exact Or.inr ⟨(([] : List Near), ([] : List Near), ()), ⟨Wk.refl _, wk_nil En, trivial⟩, L, rfl, x2, ⟨WkL.refl _, rfl, rfl⟩, T, rfl, A, rfl, rfl, rfl, rfl, rfl, rfl, rfl, rfl, rfl, by show x2.length ≤ x.length + 60; omega, rfl, fun V hV => by rw [EX]; exact (gE V [] hV (TopOk.none (Int.le_of_lt kp))).symm⟩
      ·skip
       obtain ⟨⟨d2, r2, c2, t2, a2, _⟩, T2, A2, _⟩ := dd
       obtain ⟨g1, g2, g3, g4, g5, g6, g7, gE⟩ := hh
       obtain rfl : d = d2 := g1.symm
       obtain rfl : r = r2 := g2.symm
       obtain rfl : c = c2 := g3.symm
       obtain rfl : t = t2 := g4.symm
       obtain rfl : a = a2 := g5.symm
       obtain rfl : T = T2 := g6.symm
       obtain rfl : A = A2 := g7.symm
       refine Or.inr ⟨rfl, trivial, fun c3 d3 h3 => ?_, trivial⟩
       obtain ⟨o3, _⟩ := c3
       obtain ⟨⟨k3, _, _⟩, _⟩ := d3
       obtain ⟨ho, _⟩ := h3
       obtain rfl : o3 = [] := ho
       exact Or.inl ⟨(([] : List Near), ([] : List Near), ()), ⟨Wk.refl _, wk_nil En, trivial⟩, L, rfl, T, rfl, A, rfl, rfl, rfl, rfl, rfl, rfl, rfl, rfl, rfl, rfl, fun V hV => by rw [EX]; exact (gE V [] hV (TopOk.none (Int.le_of_lt kp))).symm⟩
      ·skip
       obtain ⟨_, e9, _⟩ := cc
       obtain ⟨⟨d2, r2, c2, t2, a2, x2, _⟩, T2, A2, _⟩ := dd
       obtain ⟨g1, g2, g3, g4, g5, g6, g7, gx, ge, gE⟩ := hh
       obtain rfl : d = d2 := g1.symm
       obtain rfl : r = r2 := g2.symm
       obtain rfl : c = c2 := g3.symm
       obtain rfl : t = t2 := g4.symm
       obtain rfl : a = a2 := g5.symm
       obtain rfl : T = T2 := g6.symm
       obtain rfl : A = A2 := g7.symm
       have gx2 : x2.length + 0 ≤ x.length + (ordC L).length := gx
       exact Or.inr ⟨(([] : List Near), ([] : List Near), ()), ⟨wk_nil En, wk_nil En, trivial⟩, L, rfl, x2, ⟨WkL.refl _, rfl, rfl⟩, T, rfl, A, rfl, rfl, rfl, rfl, rfl, rfl, rfl, rfl, rfl, by show x2.length ≤ x.length + 60; omega, rfl, fun V hV => by rw [EX]; exact (gE V [] hV (TopOk.none (Int.le_of_lt kp))).symm⟩
      ·skip
       obtain ⟨_, e9, _⟩ := cc
       obtain ⟨⟨d2, r2, c2, t2, a2, _⟩, T2, A2, _⟩ := dd
       obtain ⟨g1, g2, g3, g4, g5, g6, g7, ge, gE⟩ := hh
       obtain rfl : d = d2 := g1.symm
       obtain rfl : r = r2 := g2.symm
       obtain rfl : c = c2 := g3.symm
       obtain rfl : t = t2 := g4.symm
       obtain rfl : a = a2 := g5.symm
       obtain rfl : T = T2 := g6.symm
       obtain rfl : A = A2 := g7.symm
       exact Or.inl ⟨(([] : List Near), ([] : List Near), ()), ⟨wk_nil En, wk_nil En, trivial⟩, L, rfl, T, rfl, A, rfl, rfl, rfl, rfl, rfl, rfl, rfl, rfl, rfl, rfl, fun V hV => by rw [EX]; exact (gE V [] hV (TopOk.none (Int.le_of_lt kp))).symm⟩
theorem exMOCc : CcOk PP 9 uXy := call_ok mixed (KLX_ok (cc_cons uR0 (cc_cons uQb (cc_cons uP7 (cc_cons uHv (cc_cons uTm (cc_cons uI1 (cc_nil)))))))) rfl exMOStep
end Go.Proofs.YteehkdejkemnmaaDoor
namespace Go.Proofs.YteehkdejkemnmaaDoor
open Go.Det Go.RowKit
set_option maxRecDepth 100000
noncomputable def uPw : Tel ((List Int) × Unit) := .cons 0 (.lst Ei16) (.nil)
theorem own16Fn (l : List Int) (Q : AV → Prop) : (callW PP (runW PP (KL [] []) 200) 15 (uPw.cells id (l, ())) (stE true) (fun x st => frzW st x Q)) = ( (l.flatMap Ei16.f).length = l.length.mul 1 ∧ ifp (allScalar (l.flatMap Ei16.f) && true) (ifp (roomy (Nat.add 0 l.length) 2) (Q (AV.vs ([] ++ l.flatMap Ei16.f) (Nat.add 0 l.length) (Nat.add 0 l.length) false (some 1) 1)) False) False) := by kernel_rfl
def uDt : (List Int) × Unit → Prop := fun (l, ()) => l.length ≤ 1000000
noncomputable def uMm : (List Int) × Unit → AV := fun (l, ()) => lst Ei16 l
noncomputable def uIc : CallC := valC uPw uDt uMm
theorem own16Val (l : List Int) (hp : uDt (l, ())) : Val PP 15 (uPw.cells id (l, ())) (uMm (l, ())) := by
 refine Val.ofF mixed (KL_ok (cc_nil)) (freesC rfl _) (own16Fn l) ?_
 have hp' : l.length ≤ 1000000 := hp
 refine ⟨Enc.flen Ei16 l, ?_⟩
 rw [ifp_pos (by rw [Enc.fscal Ei16]; rfl), ifp_pos (roomy_small (by simp only [Nat.add_eq]; omega) (by decide))]
 exact tells_lst ⟨rfl, by show 0 + l.length = _; omega, rfl⟩
theorem own16Cc : CcOk PP 15 uIc := val_ok rfl (fun ⟨l, _⟩ h => own16Val l h)
abbrev uJ8 := (List (List Int)) × Int × Int × Unit
abbrev uEn := uJ8 × (Unit)
noncomputable def uQj : Tel uJ8 := .cons 0 (.lst Evl) (.ji 2 (.ji 7 (.nil)))
noncomputable def uQn : BTel (Unit) := .nil
noncomputable def uQm : List (LForm uEn) := [⟨_, _, uQj, uQn, fun x y => (x, y)⟩]
noncomputable def uG2 (R0 : uEn → (Unit) → (Unit) → Prop) (R1 : uEn → (Bool × Unit) → (Unit) → Prop) : List (Alt uEn) := [⟨.exit 0, Unit, Unit, .nil, .nil, R0⟩, ⟨.ret, Bool × Unit, Unit, .cons 6 (.bool) (.nil), .nil, R1⟩]
theorem lt16Form (l : List (List Int)) (n i : Int) (N : uEn → Prop) (R0 : uEn → (Unit) → (Unit) → Prop) (R1 : uEn → (Bool × Unit) → (Unit) → Prop) : ((runW PP (KL [] []) 100).code none 5 25 (loopBody PP 5 4) (mkT (uQj.av id (l, n, i, ()))) [] (stL false (uQn.obs id ())) (postL 0 uQm (uG2 R0 R1) ((l, n, i, ()), ()) N)) = ( ifp (!leInt (Int.ofNat l.length) i) (idxOk i l.length ∧ ∃ l' n_1 c x w e, nth ((natOf i).mul 1) (l.flatMap Evl.f) = some (AV.vs l' n_1 c x w e) ∧ ifp (!leInt (Int.ofNat n_1) n) (True ∧ true = true ∧ R1 ((l, n, i, ()), ()) (false, ()) ()) (True ∧ ∃ l_1, Wv Evl l l_1 ∧ true = true ∧ N ((l_1, n, wrapF .i64 (i.add 1), ()), ()))) (True ∧ true = true ∧ R0 ((l, n, i, ()), ()) () ())) := by kernel_rfl
def uKy : uEn → Prop := fun ((l, n, i, ()), ()) => ∃ k : Nat, i = k ∧ k ≤ l.length ∧ l.length < 9223372036854775807 ∧ (l.take k).all (fun v => decide ((v.length : Int) ≤ n)) = true
def uTr : uEn → Nat := fun ((l, n, i, ()), ()) => l.length - i.toNat
def uQl : uEn → (Unit) → (Unit) → Prop := fun ((l, n, i, ()), ()) _ _ => l.all (fun v => decide ((v.length : Int) ≤ n)) = true
def uQk : uEn → (Bool × Unit) → (Unit) → Prop := fun ((l, n, i, ()), ()) ⟨r, _⟩ _ => r = false ∧ l.all (fun v => decide ((v.length : Int) ≤ n)) = false
noncomputable def uWb : LoopC := loopC 0 uQm (uG2 uQl uQk) uKy
theorem lt16Step : stepsOk PP (KL [] []) 100 5 25 (loopBody PP 5 4) 0 false uQm (uG2 uQl uQk) uKy uTr ⟨_, _, uQj, uQn, fun x y => (x, y)⟩ := by
 intro x y hz
 obtain ⟨l, n, i, _⟩ := x
 obtain _ := y
 refine (lt16Form l n i _ _ _).mpr ?_
 obtain ⟨k, rfl, hk, hl, ht⟩ := hz
 rw [ifp_lt]
 simp only [natOf_nat]
 split
 ·rename_i h
  have hkl : k < l.length := by simpa using h
  repeat first | refine ⟨Nat.le_refl _, ?_⟩ | rw [ifp_pos (roomy_small (by simp only [Nat.add_eq]; omega) (by decide))] | refine ⟨trivial, ?_⟩ | refine ⟨(rfl : true = true), ?_⟩ | refine ⟨idx_ok (by omega), ?_⟩ | refine ⟨idx_ok0 (by omega), ?_⟩ | refine ⟨_, nth_int (by omega), ?_⟩ | refine ⟨_, _, _, _, _, _, nth_lst (by omega), ?_⟩ | refine ⟨_, _, _, _, _, _, nth_lst0 (by omega), ?_⟩ | refine ⟨_, Wk.refl _, ?_⟩ | rw [ifp_pos rfl]
  rw [ifp_lt]
  split
  ·rename_i h2
   repeat first | refine ⟨Nat.le_refl _, ?_⟩ | rw [ifp_pos (roomy_small (by simp only [Nat.add_eq]; omega) (by decide))] | refine ⟨trivial, ?_⟩ | refine ⟨(rfl : true = true), ?_⟩ | refine ⟨idx_ok (by omega), ?_⟩ | refine ⟨idx_ok0 (by omega), ?_⟩ | refine ⟨_, nth_int (by omega), ?_⟩ | refine ⟨_, _, _, _, _, _, nth_lst (by omega), ?_⟩ | refine ⟨_, _, _, _, _, _, nth_lst0 (by omega), ?_⟩ | refine ⟨_, Wk.refl _, ?_⟩ | rw [ifp_pos rfl]
   exact ⟨rfl, all_of_get hkl (decide_eq_false (by simp at h2; omega))⟩
  ·rename_i h2
   repeat first | refine ⟨Nat.le_refl _, ?_⟩ | rw [ifp_pos (roomy_small (by simp only [Nat.add_eq]; omega) (by decide))] | refine ⟨trivial, ?_⟩ | refine ⟨(rfl : true = true), ?_⟩ | refine ⟨idx_ok (by omega), ?_⟩ | refine ⟨idx_ok0 (by omega), ?_⟩ | refine ⟨_, nth_int (by omega), ?_⟩ | refine ⟨_, _, _, _, _, _, nth_lst (by omega), ?_⟩ | refine ⟨_, _, _, _, _, _, nth_lst0 (by omega), ?_⟩ | refine ⟨_, Wk.refl _, ?_⟩ | rw [ifp_pos rfl]
   rw [wsucc (by omega)]
   refine ⟨⟨k + 1, rfl, hkl, hl, ?_⟩, ?_, fun _ _ h => h, fun _ _ h => h, trivial⟩
   ·rw [all_take_succ hkl, ht]; simp at h2 ⊢; omega
   ·show l.length - (k + 1) < l.length - k; omega
 ·rename_i h
  repeat first | refine ⟨Nat.le_refl _, ?_⟩ | rw [ifp_pos (roomy_small (by simp only [Nat.add_eq]; omega) (by decide))] | refine ⟨trivial, ?_⟩ | refine ⟨(rfl : true = true), ?_⟩ | refine ⟨idx_ok (by omega), ?_⟩ | refine ⟨idx_ok0 (by omega), ?_⟩ | refine ⟨_, nth_int (by omega), ?_⟩ | refine ⟨_, _, _, _, _, _, nth_lst (by omega), ?_⟩ | refine ⟨_, _, _, _, _, _, nth_lst0 (by omega), ?_⟩ | refine ⟨_, Wk.refl _, ?_⟩ | rw [ifp_pos rfl]
  rw [take_all (by simpa using h)] at ht; exact ht
theorem lt16Ok : LoopOk PP 5 25 (.loop (loopBody PP 5 4)) (uWb) := loop_ok uTr  mixed (KL_ok (cc_nil)) rfl (steps_cons lt16Step (steps_nil))
noncomputable def uG6 : Tel uJ8 := .cons 0 (.lst Evl) (.ji 1 (.ji 2 (.nil)))
theorem light16Fn (l : List (List Int)) (m n : Int) (Q : AV → Prop) : (callW PP (runW PP (KL [] [(5, [(4, uWb)])]) 200) 5 (uG6.cells id (l, m, n, ())) (stE false) (fun x st => frzW st x Q)) = ( ifp (!leInt (Int.ofNat l.length) m) (Q (AV.bool false)) (LoopOk PP 5 25 (loopBody PP 5 4).loop uWb ∧ True ∧ True ∧ ∃ l_1, Wv Evl l l_1 ∧ true = true ∧ uKy ((l_1, n, 0, ()), ()) ∧ (∀ (c d : Unit), uQl ((l_1, n, 0, ()), ()) c d → Q (AV.bool true)) ∧ (∀ c d, uQk ((l_1, n, 0, ()), ()) c d → Q (AV.bool c.1)) ∧ True)) := by kernel_rfl
def uC2 : (List (List Int)) × Int × Int × Unit → Prop := fun (l, m, n, ()) => m < 9223372036854775807
noncomputable def uFg : (List (List Int)) × Int × Int × Unit → AV := fun (l, m, n, ()) => .bool (uDe l m n)
noncomputable def uDv : CallC := valC uG6 uC2 uFg
theorem light16Val (l : List (List Int)) (m : Int) (n : Int) (hp : uC2 (l, m, n, ())) : Val PP 5 (uG6.cells id (l, m, n, ())) (uFg (l, m, n, ())) := by
 refine Val.ofF mixed (KL_ok (cc_nil)) (freesC rfl _) (light16Fn l m n) ?_
 have hp0 : m < 9223372036854775807 := hp
 rw [ifp_lt]
 split
 ·rename_i h
  exact tells_bool (by simp at h; simp [uDe]; omega)
 ·rename_i h
  refine ⟨lt16Ok, ?_⟩
  have hp' : l.length < 9223372036854775807 := by simp only [Int.not_lt, Int.ofNat_eq_natCast] at h; omega
  repeat first | refine ⟨Nat.le_refl _, ?_⟩ | rw [ifp_pos (roomy_small (by simp only [Nat.add_eq]; omega) (by decide))] | refine ⟨trivial, ?_⟩ | refine ⟨(rfl : true = true), ?_⟩ | refine ⟨idx_ok (by omega), ?_⟩ | refine ⟨idx_ok0 (by omega), ?_⟩ | refine ⟨_, nth_int (by omega), ?_⟩ | refine ⟨_, _, _, _, _, _, nth_lst (by omega), ?_⟩ | refine ⟨_, _, _, _, _, _, nth_lst0 (by omega), ?_⟩ | refine ⟨_, Wk.refl _, ?_⟩ | rw [ifp_pos rfl]
  refine ⟨⟨0, rfl, by omega, hp', by simp⟩, fun _ _ hr => ?_, fun c _ hr => ?_, trivial⟩
  ·exact tells_bool (by simp at h; have hr' : l.all (fun v => decide ((v.length : Int) ≤ n)) = true := hr; simp only [uDe, hr']; simp; omega)
  ·obtain ⟨r, _⟩ := c
   obtain ⟨rfl, hr'⟩ := hr
   exact tells_bool (by simp only [uDe, hr', Bool.and_false])
theorem light16Cc : CcOk PP 5 uDv := val_ok rfl (fun ⟨l, ⟨m, ⟨n, _⟩⟩⟩ h => light16Val l m n h)
abbrev uFu := (Int × Int × Unit) × (Unit)
noncomputable def uUr : Tel (Int × Int × Unit) := .ji 0 (.ji 1 (.nil))
noncomputable def uN8 : BTel (Unit) := .nil
abbrev uBw := Unit × Int × Unit
abbrev uGg := Int × Int × Int × Unit × Unit × Unit × Unit
abbrev uMc := uGg × Unit
noncomputable abbrev uGi := Bk.row (.ji 0 (.ji 1 (.ji 2 (.cons 3 (.nilS) (.cons 4 (.nilS) (.cons 5 (.nilS) (.nil)))))))
noncomputable def uI9 (R0 : uFu → uBw → (Unit) → Prop) (R1 : uFu → uBw → uMc → Prop) : List (Res uFu) := [⟨Unit × Int × Unit, Unit, .cons 0 (.con (.nilPtr) rfl) (.ji 1 (.nil)), .nil, R0⟩, ⟨Unit × Int × Unit, uMc, .cons 0 (.ptr 0) (.ji 1 (.nil)), .cons uGi (.nil), R1⟩]
theorem snewFn (u w : Int) (R0 : uFu → uBw → (Unit) → Prop) (R1 : uFu → uBw → uMc → Prop) : (callW PP (runW PP (KL [] []) 200) 11 (uUr.cells id (u, w, ())) (stL false (uN8.obs id ())) (fun v st => resAny 0 ((u, w, ()), ()) v st (uI9 R0 R1))) = ( ifp (!leInt 1 u) (AV.nilPtr = AV.nilPtr ∧ true = true ∧ R0 ((u, w, ()), ()) ((), 2, ()) () ∨ False) (ifp (!leInt u 1024) (AV.nilPtr = AV.nilPtr ∧ true = true ∧ R0 ((u, w, ()), ()) ((), 2, ()) () ∨ False) (ifp (!leInt 1 w) (AV.nilPtr = AV.nilPtr ∧ true = true ∧ R0 ((u, w, ()), ()) ((), 2, ()) () ∨ False) (ifp (!leInt w 16777216) (AV.nilPtr = AV.nilPtr ∧ true = true ∧ R0 ((u, w, ()), ()) ((), 2, ()) () ∨ False) (AV.ptr 0 0 = AV.nilPtr ∧ true = true ∧ R0 ((u, w, ()), ()) ((), 0, ()) () ∨ true = true ∧ R1 ((u, w, ()), ()) ((), 0, ()) ((u, w, 0, (), (), (), ()), ())))))) := by kernel_rfl
def uJa : uFu → Prop := fun ((u, w, ()), ()) => w = 60
def uN7 : uFu → uBw → (Unit) → Prop := fun ((u, w, ()), ()) (_, e, _) _ => e = 2 ∧ (u < 1 ∨ 1024 < u)
def uN6 : uFu → uBw → uMc → Prop := fun ((u, w, ()), ()) (_, e, _) ((d2, r2, c2, _), _) => e = 0 ∧ 1 ≤ u ∧ u ≤ 1024 ∧ d2 = u ∧ r2 = 60 ∧ c2 = 0
noncomputable def uUs : CallC := callC 0 uUr uN8 uJa (uI9 uN7 uN6)
theorem snewStep (z : uFu) (hp : uJa z) : callW PP (runW PP (KL [] []) 200) 11 (uUr.cells id z.1) (stL false (uN8.obs id z.2)) (fun v st => resAny 0 z v st (uI9 uN7 uN6)) := by
 obtain ⟨⟨u, w, _⟩, _⟩ := z
 refine (snewFn u w _ _).mpr ?_
 obtain rfl : w = 60 := hp
 rw [ifp_lt, ifp_lt, ifp_lt, ifp_lt]
 split
 ·rename_i h; exact Or.inl ⟨rfl, rfl, rfl, Or.inl h⟩
 ·rename_i h
  split
  ·rename_i h2; exact Or.inl ⟨rfl, rfl, rfl, Or.inr h2⟩
  ·rename_i h2
   rw [if_neg (by decide), if_neg (by decide)]
   exact Or.inr ⟨rfl, rfl, by omega, by omega, rfl, rfl, rfl⟩
theorem snewCc : CcOk PP 11 uUs := call_ok mixed (KL_ok (cc_nil)) rfl snewStep
abbrev uF8 := (Int × Int × Unit) × (Unit)
noncomputable def uVd : Tel (Int × Int × Unit) := .ji 0 (.ji 1 (.nil))
noncomputable def uOr : BTel (Unit) := .nil
abbrev uGe := Int × Int × Unit × Unit × Unit
abbrev uMb := uGe × Unit
noncomputable abbrev uGh := Bk.row (.ji 0 (.ji 1 (.cons 2 (.nilS) (.cons 3 (.nilS) (.nil)))))
noncomputable def uJx (R0 : uF8 → uBw → (Unit) → Prop) (R1 : uF8 → uBw → uMb → Prop) : List (Res uF8) := [⟨Unit × Int × Unit, Unit, .cons 0 (.con (.nilPtr) rfl) (.ji 1 (.nil)), .nil, R0⟩, ⟨Unit × Int × Unit, uMb, .cons 0 (.ptr 0) (.ji 1 (.nil)), .cons uGh (.nil), R1⟩]
theorem rnewFn (u w : Int) (R0 : uF8 → uBw → (Unit) → Prop) (R1 : uF8 → uBw → uMb → Prop) : (callW PP (runW PP (KL [] []) 200) 14 (uVd.cells id (u, w, ())) (stL false (uOr.obs id ())) (fun v st => resAny 0 ((u, w, ()), ()) v st (uJx R0 R1))) = ( ifp (!leInt 1 u) (AV.nilPtr = AV.nilPtr ∧ true = true ∧ R0 ((u, w, ()), ()) ((), 2, ()) () ∨ False) (ifp (!leInt u 1024) (AV.nilPtr = AV.nilPtr ∧ true = true ∧ R0 ((u, w, ()), ()) ((), 2, ()) () ∨ False) (ifp (!leInt 1 w) (AV.nilPtr = AV.nilPtr ∧ true = true ∧ R0 ((u, w, ()), ()) ((), 2, ()) () ∨ False) (ifp (!leInt w 16777216) (AV.nilPtr = AV.nilPtr ∧ true = true ∧ R0 ((u, w, ()), ()) ((), 2, ()) () ∨ False) (AV.ptr 0 0 = AV.nilPtr ∧ true = true ∧ R0 ((u, w, ()), ()) ((), 0, ()) () ∨ true = true ∧ R1 ((u, w, ()), ()) ((), 0, ()) ((u, w, (), (), ()), ())))))) := by kernel_rfl
def uF9 : uF8 → Prop := fun ((u, w, ()), ()) => w = 60
def uLv : uF8 → uBw → (Unit) → Prop := fun ((u, w, ()), ()) (_, e, _) _ => e = 2 ∧ (u < 1 ∨ 1024 < u)
def uLu : uF8 → uBw → uMb → Prop := fun ((u, w, ()), ()) (_, e, _) ((d2, r2, _), _) => e = 0 ∧ 1 ≤ u ∧ u ≤ 1024 ∧ d2 = u ∧ r2 = 60
noncomputable def uVe : CallC := callC 0 uVd uOr uF9 (uJx uLv uLu)
theorem rnewStep (z : uF8) (hp : uF9 z) : callW PP (runW PP (KL [] []) 200) 14 (uVd.cells id z.1) (stL false (uOr.obs id z.2)) (fun v st => resAny 0 z v st (uJx uLv uLu)) := by
 obtain ⟨⟨u, w, _⟩, _⟩ := z
 refine (rnewFn u w _ _).mpr ?_
 obtain rfl : w = 60 := hp
 rw [ifp_lt, ifp_lt, ifp_lt, ifp_lt]
 split
 ·rename_i h; exact Or.inl ⟨rfl, rfl, rfl, Or.inl h⟩
 ·rename_i h
  split
  ·rename_i h2; exact Or.inl ⟨rfl, rfl, rfl, Or.inr h2⟩
  ·rename_i h2
   rw [if_neg (by decide), if_neg (by decide)]
   exact Or.inr ⟨rfl, rfl, by omega, by omega, rfl, rfl⟩
theorem rnewCc : CcOk PP 14 uVe := call_ok mixed (KL_ok (cc_nil)) rfl rnewStep
def fitV (d : Int) (V : List (List Int)) : List (List Int) := V.filter fun v => decide ((v.length : Int) = d)
theorem uHk {d : Int} {V : List (List Int)} {q : Nat} (h : q < V.length) : fitV d (V.take (q + 1)) = putS d (fitV d (V.take q)) V[q] := by
 rw [← List.take_append_getElem h, fitV, List.filter_append, putS]
 split
 ·rename_i h9; rw [List.filter_cons_of_pos (by simpa using h9)]; rfl
 ·rename_i h9; rw [List.filter_cons_of_neg (by simpa using h9)]; simp [fitV]
theorem fit_len (d : Int) (V : List (List Int)) : (fitV d V).length ≤ V.length := List.length_filter_le _ _
theorem fit_all {d : Int} {V : List (List Int)} (h : ∀ v ∈ V, (v.length : Int) = d) : fitV d V = V := List.filter_eq_self.2 fun v hv => by simpa using h v hv
noncomputable def putK (gl : Tr (List AV)) : CallC := orC (uXl gl) uXm
theorem putCc {gl : Tr (List AV)} (hg : GlOk gl) : CcOk PP 12 (putK gl) := orC_ok (put1Cc hg) put0Cc
noncomputable def uOj : CallC := orC uS4 uS5
theorem rputCc : CcOk PP 16 uOj := orC_ok rput1Cc rput0Cc
abbrev uO4 := Int × Int × Int × (Nat × Nat) × (Nat × Nat) × Unit × Unit
abbrev uO5 := uO4 × (List Int) × (List Int) × (Int × Int × (Nat × Nat) × Unit × Unit) × (List (List Int)) × Unit
abbrev uGf := (List (List Int)) × Unit × Unit × Int × Unit
abbrev uCi := (uGf × uO5) × Bool
noncomputable def uPi : Tel uGf := .cons 1 (.lst Evl) (.cons 6 (.ptr 0) (.cons 8 (.ptr 3) (.ji 10 (.nil))))
noncomputable abbrev uKa := Bk.row (.ji 0 (.ji 1 (.ji 2 (.cons 3 (.slq 1 1) (.cons 4 (.slq 2 1) (.cons 5 (.nilS) (.nil)))))))
noncomputable abbrev uJ9 := Bk.row (.ji 0 (.ji 1 (.cons 2 (.slq 4 1) (.cons 3 (.nilS) (.nil)))))
noncomputable def uPk : BTel uO5 := .cons uKa (.cons (.rows Eu64 82) (.cons (.rows Ei16 26) (.cons uJ9 (.cons (.rowsW Evl 23) (.nil)))))
noncomputable def uKc : Tel uGf := .cons 1 (.lst Evl) (.cons 6 (.ptr 0) (.cons 8 (.ptr 1) (.ji 10 (.nil))))
noncomputable def uKe : BTel (uGg × uGe × Unit) := .cons uGi (.cons uGh (.nil))
noncomputable def uPh : uGf → (uGg × uGe × Unit) → uCi := fun (V, (), (), i, ()) ((d, r, c, (), (), (), ()), (D, R, (), (), ()), ()) => (((V, (), (), i, ()), (d, r, c, (0, 0), (0, 0), (), ()), [], [], (D, R, (0, 0), (), ()), [], ()), false)
noncomputable def uIb : List (LForm uCi) := [⟨_, _, uPi, uPk, fun x y => ((x, y), true)⟩, ⟨_, _, uKc, uKe, uPh⟩]
abbrev uA1 := Unit × Unit × Unit
abbrev uCt := uO4 × (List Int) × (List Int) × (Int × Int × (Nat × Nat) × Unit × Unit) × (List (List Int)) × Unit
abbrev uCs := uGg × uGe × Unit
noncomputable def uCu (R0 : uCi → uA1 → uCt → Prop) (R1 : uCi → uA1 → uCs → Prop) : List (Alt uCi) := [⟨.exit 0, uA1, uCt, .cons 6 (.ptr 0) (.cons 8 (.ptr 3) (.nil)), .cons uKa (.cons (.rows Eu64 82) (.cons (.rows Ei16 26) (.cons uJ9 (.cons (.rowsW Evl 23) (.nil))))), R0⟩, ⟨.exit 0, uA1, uCs, .cons 6 (.ptr 0) (.cons 8 (.ptr 1) (.nil)), .cons uGi (.cons uGh (.nil)), R1⟩]
theorem putLForm (gl : Tr (List AV)) (V : List (List Int)) (i d r c : Int) (t a : Nat × Nat) (T A : List Int) (D R : Int) (g : Nat × Nat) (W : List (List Int)) (N : uCi → Prop) (R0 : uCi → uA1 → uCt → Prop) (R1 : uCi → uA1 → uCs → Prop) : ((runW PP (KLX [(15, uIc), (12, putK gl), (16, uOj)] [] [82, 26, 23] [] []) 100).code none 6 48 (loopBody PP 6 6) (mkT (uPi.av id (V, (), (), i, ()))) [] (stL true (uPk.obs id ((d, r, c, t, a, (), ()), T, A, (D, R, g, (), ()), W, ())) gl (fun u => hasT u [23])) (postL 1 uIb (uCu R0 R1) (((V, (), (), i, ()), (d, r, c, t, a, (), ()), T, A, (D, R, g, (), ()), W, ()), true) N)) = ( ifp (!leInt (Int.ofNat V.length) i) (idxOk i V.length ∧ ∃ l' n c_1 x w e, nth ((natOf i).mul 1) (V.flatMap Evl.f) = some (AV.vs l' n c_1 x w e) ∧ ∃ (l : List Int), Wk (AV.vs l' n c_1 x w e) (lst Ei16 l) ∧ uDt (l, ()) ∧ ((gl = gl ∧ ∃ l_1, Wv Ei16 l l_1 ∧ ∃ l, Sa Eu64 T l ∧ ∃ l_2, Sa Ei16 A l_2 ∧ true = true ∧ uKi (((), l_1, ()), (d, r, c, t, a, (), ()), l, l_2, ()) ∧ (∀ c_2 d_1, uPp (((), l_1, ()), (d, r, c, t, a, (), ()), l, l_2, ()) c_2 d_1 → idxOk i V.length ∧ ∃ l' n c x w e, nth ((natOf i).mul 1) (V.flatMap Evl.f) = some (AV.vs l' n c x w e) ∧ ((∃ (l : List Int), Wk (AV.vs l' n c x w e) (lst Ei16 l) ∧ ∃ (l_3 : List (List Int)), WkL (W.flatMap Evl.f) (l_3.flatMap Evl.f) ∧ true = true ∧ uF3 (((), l, ()), (D, R, g, (), ()), l_3, ()) ∧ (∀ c d, uJt (((), l, ()), (D, R, g, (), ()), l_3, ()) c d → True ∧ ((∃ l, Wv Evl V l ∧ ∃ l_4, Sa Eu64 d_1.2.1 l_4 ∧ ∃ l_5, Sa Ei16 d_1.2.2.1 l_5 ∧ ∃ (l_6 : List (List Int)), WkL (List.flatMap Evl.f d.2.1) (l_6.flatMap Evl.f) ∧ true = true ∧ N (((l, (), (), wrapF .i64 (i.add 1), ()), (d_1.1.1, d_1.1.2.1, d_1.1.2.2.1, d_1.1.2.2.2.1, d_1.1.2.2.2.2.1, (), ()), l_4, l_5, (d.1.1, d.1.2.1, d.1.2.2.1, (), ()), l_6, ()), true)) ∨ ∃ l, Wv Evl V l ∧ False)) ∧ True) ∨ ∃ (l : List Int), Wk (AV.vs l' n c x w e) (lst Ei16 l) ∧ False)) ∧ True) ∨ ∃ l_1, Wv Ei16 l l_1 ∧ False)) ((True ∧ ∃ l, Sa Eu64 T l ∧ ∃ l_1, Sa Ei16 A l_1 ∧ ∃ (l_2 : List (List Int)), WkL (W.flatMap Evl.f) (l_2.flatMap Evl.f) ∧ true = true ∧ R0 (((V, (), (), i, ()), (d, r, c, t, a, (), ()), T, A, (D, R, g, (), ()), W, ()), true) ((), (), ()) ((d, r, c, t, a, (), ()), l, l_1, (D, R, g, (), ()), l_2, ())) ∨ True ∧ False)) := by kernel_rfl
theorem putLForm0 (gl : Tr (List AV)) (V : List (List Int)) (i d r c D R : Int) (N : uCi → Prop) (R0 : uCi → uA1 → uCt → Prop) (R1 : uCi → uA1 → uCs → Prop) : ((runW PP (KLX [(15, uIc), (12, putK gl), (16, uOj)] [] [82, 26, 23] [] []) 100).code none 6 48 (loopBody PP 6 6) (mkT (uKc.av id (V, (), (), i, ()))) [] (stL true (uKe.obs id ((d, r, c, (), (), (), ()), (D, R, (), (), ()), ())) gl (fun u => hasT u [23])) (postL 1 uIb (uCu R0 R1) (uPh (V, (), (), i, ()) ((d, r, c, (), (), (), ()), (D, R, (), (), ()), ())) N)) = ( ifp (!leInt (Int.ofNat V.length) i) (idxOk i V.length ∧ ∃ l' n c_1 x w e, nth ((natOf i).mul 1) (V.flatMap Evl.f) = some (AV.vs l' n c_1 x w e) ∧ ∃ (l : List Int), Wk (AV.vs l' n c_1 x w e) (lst Ei16 l) ∧ uDt (l, ()) ∧ ((gl = gl ∧ ∃ l_1, Wv Ei16 l l_1 ∧ False) ∨ ∃ l_1, Wv Ei16 l l_1 ∧ true = true ∧ uKk (((), l_1, ()), (d, r, c, (), (), (), ()), ()) ∧ (∀ c_2 d_1, uPs (((), l_1, ()), (d, r, c, (), (), (), ()), ()) c_2 d_1 → idxOk i V.length ∧ ∃ l' n c x w e, nth ((natOf i).mul 1) (V.flatMap Evl.f) = some (AV.vs l' n c x w e) ∧ ((∃ (l : List Int), Wk (AV.vs l' n c x w e) (lst Ei16 l) ∧ False) ∨ ∃ (l : List Int), Wk (AV.vs l' n c x w e) (lst Ei16 l) ∧ true = true ∧ uDn (((), l, ()), (D, R, (), (), ()), ()) ∧ (∀ c d, uF6 (((), l, ()), (D, R, (), (), ()), ()) c d → True ∧ ((∃ l, Wv Evl V l ∧ False) ∨ ∃ l, Wv Evl V l ∧ true = true ∧ N (((l, (), (), wrapF .i64 (i.add 1), ()), (d_1.1.1, d_1.1.2.1, d_1.1.2.2.1, (0, 0), (0, 0), (), ()), [], [], (d.1.1, d.1.2.1, (0, 0), (), ()), [], ()), false))) ∧ (∀ c d, uF5 (((), l, ()), (D, R, (), (), ()), ()) c d → True ∧ ((∃ l, Wv Evl V l ∧ False) ∨ ∃ l, Wv Evl V l ∧ False)) ∧ True)) ∧ (∀ c_2 d_1, uPr (((), l_1, ()), (d, r, c, (), (), (), ()), ()) c_2 d_1 → idxOk i V.length ∧ ∃ l' n c x w e, nth ((natOf i).mul 1) (V.flatMap Evl.f) = some (AV.vs l' n c x w e) ∧ ((∃ (l : List Int), Wk (AV.vs l' n c x w e) (lst Ei16 l) ∧ False) ∨ ∃ (l : List Int), Wk (AV.vs l' n c x w e) (lst Ei16 l) ∧ true = true ∧ uDn (((), l, ()), (D, R, (), (), ()), ()) ∧ (∀ c d, uF6 (((), l, ()), (D, R, (), (), ()), ()) c d → True ∧ ((∃ l, Wv Evl V l ∧ ∃ l, Sa Eu64 d_1.2.1 l ∧ ∃ l, Sa Ei16 d_1.2.2.1 l ∧ False) ∨ ∃ l, Wv Evl V l ∧ False)) ∧ (∀ c d, uF5 (((), l, ()), (D, R, (), (), ()), ()) c d → True ∧ ((∃ l, Wv Evl V l ∧ ∃ l_2, Sa Eu64 d_1.2.1 l_2 ∧ ∃ l_3, Sa Ei16 d_1.2.2.1 l_3 ∧ ∃ (l_4 : List (List Int)), WkL (List.flatMap Evl.f d.2.1) (l_4.flatMap Evl.f) ∧ true = true ∧ N (((l, (), (), wrapF .i64 (i.add 1), ()), (d_1.1.1, d_1.1.2.1, d_1.1.2.2.1, d_1.1.2.2.2.1, d_1.1.2.2.2.2.1, (), ()), l_2, l_3, (d.1.1, d.1.2.1, d.1.2.2.1, (), ()), l_4, ()), true)) ∨ ∃ l, Wv Evl V l ∧ False)) ∧ True)) ∧ True)) (True ∧ False ∨ True ∧ true = true ∧ R1 (((V, (), (), i, ()), (d, r, c, (0, 0), (0, 0), (), ()), [], [], (D, R, (0, 0), (), ()), [], ()), false) ((), (), ()) ((d, r, c, (), (), (), ()), (D, R, (), (), ()), ()))) := by kernel_rfl
def uGl : uCi → Prop := fun (((V, (), (), i, ()), (d, r, c, t, a, (), ()), T, A, (D, R, g, (), ()), W, ()), fl) => ∃ q : Nat, i = q ∧ q ≤ V.length ∧ V.length ≤ 60 ∧ (∀ v ∈ V, v.length ≤ 1000000) ∧ 1 ≤ d ∧ d ≤ 1024 ∧ r = 60 ∧ D = d ∧ R = 60 ∧ g = (W.length, W.length) ∧ W = fitV d (V.take q) ∧ (fl = true → SlOk d r c t a T A W ∧ W ≠ []) ∧ (fl = false → c = 0 ∧ W = [])
def uPj : uCi → Nat := fun (((V, (), (), i, ()), (d, r, c, t, a, (), ()), T, A, (D, R, g, (), ()), W, ()), fl) => V.length - i.toNat
def uMl : uCi → uA1 → uCt → Prop := fun (((V, (), (), i, ()), (d, r, c, t, a, (), ()), T, A, (D, R, g, (), ()), W, ()), fl) _ ((d2, r2, c2, t2, a2, _), T2, A2, (D2, R2, g2, _), W2, _) => SlOk d r2 c2 t2 a2 T2 A2 (fitV d V) ∧ fitV d V ≠ [] ∧ d2 = d ∧ D2 = d ∧ R2 = 60 ∧ g2 = (W2.length, W2.length) ∧ W2 = fitV d V
def uMk : uCi → uA1 → uCs → Prop := fun (((V, (), (), i, ()), (d, r, c, t, a, (), ()), T, A, (D, R, g, (), ()), W, ()), fl) _ ((d2, r2, c2, _), (D2, R2, _), _) => fitV d V = [] ∧ d2 = d ∧ r2 = 60 ∧ c2 = 0 ∧ D2 = d ∧ R2 = 60
noncomputable def uKd (gl : Tr (List AV)) : LoopC := loopCg gl 1 uIb (uCu uMl uMk) uGl
theorem putLStep {gl : Tr (List AV)} (hg : GlOk gl) : stepsOk PP (KLX [(15, uIc), (12, putK gl), (16, uOj)] [] [82, 26, 23] [] []) 100 6 48 (loopBody PP 6 6) 1 true uIb (uCu uMl uMk) uGl uPj ⟨_, _, uPi, uPk, fun x y => ((x, y), true)⟩ gl (fun u => hasT u [23]) := by
 intro x y hz
 obtain ⟨V, _, _, i, _⟩ := x
 obtain ⟨⟨d, r, c, t, a, _, _⟩, T, A, ⟨D, R, g, _, _⟩, W, _⟩ := y
 refine (putLForm gl V i d r c t a T A D R g W _ _ _).mpr ?_
 obtain ⟨q, rfl, hq, hl, hvl, hd1, hd2, rfl, hD, rfl, rfl, hW, h1, _⟩ := hz
 obtain rfl : d = D := hD.symm
 obtain ⟨hS, hW0⟩ := h1 rfl
 have hWl : W.length ≤ q := by have := fit_len d (V.take q); rw [← hW] at this; simp at this; omega
 rw [ifp_lt]
 simp only [natOf_nat]
 split
 ·rename_i h
  have hql : q < V.length := by simpa using h
  refine ⟨idx_ok hql, _, _, _, _, _, _, nth_lst hql, V[q], Wk.refl _, hvl _ (List.getElem_mem hql), Or.inl ⟨(by trivial), V[q], Wk.refl _, T, rfl, A, rfl, (by trivial), ⟨W, hS, by omega, hW0⟩, fun c1 d1 hr => ?_, trivial⟩⟩
  obtain ⟨⟨d2, r2, c2, t2, a2, _, _⟩, T2, A2, _⟩ := d1
  obtain ⟨e1, hput⟩ := hr
  obtain rfl : d = d2 := e1.symm
  have hS2 := hput W hS
  refine ⟨idx_ok hql, _, _, _, _, _, _, nth_lst hql, Or.inl ⟨V[q], Wk.refl _, W, WkL.refl _, (by trivial), ⟨hd1, hd2, rfl, rfl, by omega, fun v hv => by have := hS.v1 v hv; omega⟩, fun c3 d3 hr3 => ?_, trivial⟩⟩
  obtain ⟨⟨D3, R3, g3, _, _⟩, W3, _⟩ := d3
  obtain ⟨e1, e2, e3, e4⟩ := hr3
  obtain rfl : d = D3 := e1.symm
  obtain rfl : R3 = 60 := e2
  obtain rfl : g3 = (W3.length, W3.length) := e3
  have e4' : W3 = putS d W V[q] := e4
  refine ⟨trivial, Or.inl ⟨V, Wk.refl _, T2, rfl, A2, rfl, W3, WkL.refl _, (by trivial), ?_⟩⟩
  rw [wsucc (by omega)]
  refine ⟨⟨q + 1, rfl, hql, hl, hvl, hd1, hd2, hS2.r1, rfl, rfl, rfl, by rw [uHk hql, e4', hW], fun _ => ⟨e4' ▸ hS2, by rw [e4', putS]; split <;> simp [hW0]⟩, fun h9 => by cases h9⟩, by show V.length - (q + 1) < V.length - q; omega, fun _ _ h => h, fun _ _ h => h, trivial⟩
 ·rename_i h
  have hql : ¬ q < V.length := by simpa using h
  have hWV : W = fitV d V := by rw [hW, List.take_of_length_le (by omega)]
  exact Or.inl ⟨trivial, T, rfl, A, rfl, W, WkL.refl _, (by trivial), hWV ▸ hS, hWV ▸ hW0, rfl, rfl, rfl, rfl, hWV⟩
theorem putLStep0 {gl : Tr (List AV)} (hg : GlOk gl) : stepsOk PP (KLX [(15, uIc), (12, putK gl), (16, uOj)] [] [82, 26, 23] [] []) 100 6 48 (loopBody PP 6 6) 1 true uIb (uCu uMl uMk) uGl uPj ⟨_, _, uKc, uKe, uPh⟩ gl (fun u => hasT u [23]) := by
 intro x y hz
 obtain ⟨V, _, _, i, _⟩ := x
 obtain ⟨⟨d, r, c, _, _, _, _⟩, ⟨D, R, _, _, _⟩, _⟩ := y
 refine (putLForm0 gl V i d r c D R _ _ _).mpr ?_
 obtain ⟨q, rfl, hq, hl, hvl, hd1, hd2, rfl, hD, rfl, hg, hW, _, h0⟩ := hz
 obtain rfl : d = D := hD.symm
 obtain ⟨rfl, _⟩ := h0 rfl
 rw [ifp_lt]
 simp only [natOf_nat]
 split
 ·rename_i h
  have hql : q < V.length := by simpa using h
  refine ⟨idx_ok hql, _, _, _, _, _, _, nth_lst hql, V[q], Wk.refl _, hvl _ (List.getElem_mem hql), Or.inr ⟨V[q], Wk.refl _, (by trivial), ⟨hd1, hd2, rfl, rfl⟩, fun c1 d1 hr => ?_, fun c1 d1 hr => ?_, trivial⟩⟩
  ·obtain ⟨⟨d2, r2, c2, _, _, _, _⟩, _⟩ := d1
   obtain ⟨e1, e2, e3, hne⟩ := hr
   obtain rfl : d = d2 := e1.symm
   obtain rfl : r2 = 60 := e2
   obtain rfl : c2 = 0 := e3
   refine ⟨idx_ok hql, _, _, _, _, _, _, nth_lst hql, Or.inr ⟨V[q], Wk.refl _, (by trivial), ⟨hd1, hd2, rfl⟩, fun c3 d3 hr3 => ?_, fun c3 d3 hr3 => ?_, trivial⟩⟩
   ·obtain ⟨⟨D3, R3, _, _, _⟩, _⟩ := d3
    obtain ⟨e1, e2, _⟩ := hr3
    obtain rfl : d = D3 := e1.symm
    obtain rfl : R3 = 60 := e2
    refine ⟨trivial, Or.inr ⟨V, Wk.refl _, (by trivial), ?_⟩⟩
    rw [wsucc (by omega)]
    exact ⟨⟨q + 1, rfl, hql, hl, hvl, hd1, hd2, rfl, rfl, rfl, rfl, by rw [uHk hql, ← hW, putS, if_neg hne], fun h9 => (by cases h9), fun _ => ⟨rfl, rfl⟩⟩, by show V.length - (q + 1) < V.length - q; omega, fun _ _ h => h, fun _ _ h => h, trivial⟩
   ·obtain ⟨⟨D3, R3, _, _, _⟩, W3, _⟩ := d3
    obtain ⟨_, _, _, e4, _⟩ := hr3
    exact absurd e4 hne
  ·obtain ⟨⟨d2, r2, c2, t2, a2, _, _⟩, T2, A2, _⟩ := d1
   obtain ⟨e1, he, hS2⟩ := hr
   obtain rfl : d = d2 := e1.symm
   refine ⟨idx_ok hql, _, _, _, _, _, _, nth_lst hql, Or.inr ⟨V[q], Wk.refl _, (by trivial), ⟨hd1, hd2, rfl⟩, fun c3 d3 hr3 => ?_, fun c3 d3 hr3 => ?_, trivial⟩⟩
   ·obtain ⟨⟨D3, R3, _, _, _⟩, _⟩ := d3
    obtain ⟨_, _, e4⟩ := hr3
    exact absurd he e4
   ·obtain ⟨⟨D3, R3, g3, _, _⟩, W3, _⟩ := d3
    obtain ⟨e1, e2, e3, _, e5⟩ := hr3
    obtain rfl : d = D3 := e1.symm
    obtain rfl : R3 = 60 := e2
    obtain rfl : g3 = (1, 1) := e3
    obtain rfl : W3 = [V[q]] := e5
    refine ⟨trivial, Or.inl ⟨V, Wk.refl _, T2, rfl, A2, rfl, [V[q]], WkL.refl _, (by trivial), ?_⟩⟩
    rw [wsucc (by omega)]
    exact ⟨⟨q + 1, rfl, hql, hl, hvl, hd1, hd2, hS2.r1, rfl, rfl, rfl, by rw [uHk hql, ← hW, putS, if_pos he]; rfl, fun _ => ⟨hS2, by simp⟩, fun h9 => by cases h9⟩, by show V.length - (q + 1) < V.length - q; omega, fun _ _ h => h, fun _ _ h => h, trivial⟩
 ·rename_i h
  have hql : ¬ q < V.length := by simpa using h
  have hWV : [] = fitV d V := by rw [hW, List.take_of_length_le (by omega)]
  exact Or.inr ⟨trivial, (by trivial), hWV.symm, rfl, rfl, rfl, rfl, rfl⟩
theorem putLOk {gl : Tr (List AV)} (hg : GlOk gl) : LoopOk PP 6 48 (.loop (loopBody PP 6 6)) (uKd gl) := loop_okg uPj hg.fr mixed (KLX_ok (cc_cons own16Cc (cc_cons (putCc hg) (cc_cons rputCc (cc_nil))))) rfl (steps_cons (putLStep hg) (steps_cons (putLStep0 hg) (steps_nil)))
abbrev uDj := (Int × (List (List Int)) × Unit) × (Unit)
noncomputable def uVn : Tel (Int × (List (List Int)) × Unit) := .ji 0 (.cons 1 (.lst Evl) (.nil))
noncomputable def uPo : BTel (Unit) := .nil
noncomputable def uKf (R0 : uDj → uA1 → (Unit) → Prop) (R1 : uDj → uA1 → uCt → Prop) (R2 : uDj → uA1 → uCs → Prop) : List (Res uDj) := [⟨Unit × Unit × Unit, Unit, .cons 0 (.con (.nilPtr) rfl) (.cons 1 (.con (.nilPtr) rfl) (.nil)), .nil, R0⟩, ⟨Unit × Unit × Unit, uCt, .cons 0 (.ptr 0) (.cons 1 (.ptr 3) (.nil)), .cons uKa (.cons (.rows Eu64 82) (.cons (.rows Ei16 26) (.cons uJ9 (.cons (.rowsW Evl 23) (.nil))))), R1⟩, ⟨Unit × Unit × Unit, uCs, .cons 0 (.ptr 0) (.cons 1 (.ptr 1) (.nil)), .cons uGi (.cons uGh (.nil)), R2⟩]
theorem putGFn (gl : Tr (List AV)) (d : Int) (V : List (List Int)) (R0 : uDj → uA1 → (Unit) → Prop) (R1 : uDj → uA1 → uCt → Prop) (R2 : uDj → uA1 → uCs → Prop) : (callW PP (runW PP (KLX [(11, uUs), (14, uVe)] [(6, [(6, uKd gl)])] [82, 26, 23] [] []) 200) 6 (uVn.cells id (d, V, ())) (stL true (uPo.obs id ()) gl (fun u => hasT u [23])) (fun v st => resAny 0 ((d, V, ()), ()) v st (uKf R0 R1 R2))) = ( true = true ∧ uJa ((d, 60, ()), ()) ∧ (∀ c d_1, uN7 ((d, 60, ()), ()) c d_1 → true = true ∧ uF9 ((d, 60, ()), ()) ∧ (∀ c_1 d_2, uLv ((d, 60, ()), ()) c_1 d_2 → ifp (!eqInt c.2.1 0) (AV.nilPtr = AV.nilPtr ∧ AV.nilPtr = AV.nilPtr ∧ true = true ∧ R0 ((d, V, ()), ()) ((), (), ()) () ∨ False ∨ False) (ifp (!eqInt c_1.2.1 0) (AV.nilPtr = AV.nilPtr ∧ AV.nilPtr = AV.nilPtr ∧ true = true ∧ R0 ((d, V, ()), ()) ((), (), ()) () ∨ False ∨ False) (LoopOk PP 6 48 (loopBody PP 6 6).loop (uKd gl) ∧ gl = gl ∧ True ∧ True ∧ ((∃ l, Wv Evl V l ∧ False) ∨ ∃ l, Wv Evl V l ∧ False)))) ∧ (∀ c_1 d_2, uLu ((d, 60, ()), ()) c_1 d_2 → ifp (!eqInt c.2.1 0) (AV.nilPtr = AV.nilPtr ∧ AV.nilPtr = AV.nilPtr ∧ true = true ∧ R0 ((d, V, ()), ()) ((), (), ()) () ∨ False ∨ False) (ifp (!eqInt c_1.2.1 0) (AV.nilPtr = AV.nilPtr ∧ AV.nilPtr = AV.nilPtr ∧ true = true ∧ R0 ((d, V, ()), ()) ((), (), ()) () ∨ False ∨ False) (LoopOk PP 6 48 (loopBody PP 6 6).loop (uKd gl) ∧ gl = gl ∧ True ∧ True ∧ ((∃ l, Wv Evl V l ∧ False) ∨ ∃ l, Wv Evl V l ∧ False)))) ∧ True) ∧ (∀ c d_1, uN6 ((d, 60, ()), ()) c d_1 → true = true ∧ uF9 ((d, 60, ()), ()) ∧ (∀ c_1 d_2, uLv ((d, 60, ()), ()) c_1 d_2 → ifp (!eqInt c.2.1 0) (AV.nilPtr = AV.nilPtr ∧ AV.nilPtr = AV.nilPtr ∧ true = true ∧ R0 ((d, V, ()), ()) ((), (), ()) () ∨ False ∨ False) (ifp (!eqInt c_1.2.1 0) (AV.nilPtr = AV.nilPtr ∧ AV.nilPtr = AV.nilPtr ∧ true = true ∧ R0 ((d, V, ()), ()) ((), (), ()) () ∨ False ∨ False) (LoopOk PP 6 48 (loopBody PP 6 6).loop (uKd gl) ∧ gl = gl ∧ True ∧ True ∧ ((∃ l, Wv Evl V l ∧ False) ∨ ∃ l, Wv Evl V l ∧ False)))) ∧ (∀ c_1 d_2, uLu ((d, 60, ()), ()) c_1 d_2 → ifp (!eqInt c.2.1 0) (AV.nilPtr = AV.nilPtr ∧ AV.nilPtr = AV.nilPtr ∧ true = true ∧ R0 ((d, V, ()), ()) ((), (), ()) () ∨ False ∨ False) (ifp (!eqInt c_1.2.1 0) (AV.nilPtr = AV.nilPtr ∧ AV.nilPtr = AV.nilPtr ∧ true = true ∧ R0 ((d, V, ()), ()) ((), (), ()) () ∨ False ∨ False) (LoopOk PP 6 48 (loopBody PP 6 6).loop (uKd gl) ∧ gl = gl ∧ True ∧ True ∧ ((∃ l, Wv Evl V l ∧ False) ∨ ∃ l, Wv Evl V l ∧ true = true ∧ uGl (((l, (), (), 0, ()), (d_1.1.1, d_1.1.2.1, d_1.1.2.2.1, (0, 0), (0, 0), (), ()), [], [], (d_2.1.1, d_2.1.2.1, (0, 0), (), ()), [], ()), false) ∧ (∀ c d_3, uMl (((l, (), (), 0, ()), (d_1.1.1, d_1.1.2.1, d_1.1.2.2.1, (0, 0), (0, 0), (), ()), [], [], (d_2.1.1, d_2.1.2.1, (0, 0), (), ()), [], ()), false) c d_3 → AV.ptr 0 0 = AV.nilPtr ∧ AV.ptr 4 0 = AV.nilPtr ∧ true = true ∧ R0 ((d, V, ()), ()) ((), (), ()) () ∨ (∃ l, Sa Eu64 d_3.2.1 l ∧ ∃ l_1, Sa Ei16 d_3.2.2.1 l_1 ∧ ∃ (l_2 : List (List Int)), WkL (List.flatMap Evl.f d_3.2.2.2.2.1) (l_2.flatMap Evl.f) ∧ true = true ∧ R1 ((d, V, ()), ()) ((), (), ()) ((d_3.1.1, d_3.1.2.1, d_3.1.2.2.1, d_3.1.2.2.2.1, d_3.1.2.2.2.2.1, (), ()), l, l_1, (d_3.2.2.2.1.1, d_3.2.2.2.1.2.1, d_3.2.2.2.1.2.2.1, (), ()), l_2, ())) ∨ False) ∧ (∀ c d_3, uMk (((l, (), (), 0, ()), (d_1.1.1, d_1.1.2.1, d_1.1.2.2.1, (0, 0), (0, 0), (), ()), [], [], (d_2.1.1, d_2.1.2.1, (0, 0), (), ()), [], ()), false) c d_3 → AV.ptr 0 0 = AV.nilPtr ∧ AV.ptr 2 0 = AV.nilPtr ∧ true = true ∧ R0 ((d, V, ()), ()) ((), (), ()) () ∨ False ∨ true = true ∧ R2 ((d, V, ()), ()) ((), (), ()) ((d_3.1.1, d_3.1.2.1, d_3.1.2.2.1, (), (), (), ()), (d_3.2.1.1, d_3.2.1.2.1, (), (), ()), ())) ∧ True)))) ∧ True) ∧ True) := by kernel_rfl
def uKg : uDj → Prop := fun ((d, V, ()), ()) => V.length ≤ 60 ∧ (∀ v ∈ V, v.length ≤ 1000000)
def uPn : uDj → uA1 → (Unit) → Prop := fun ((d, V, ()), ()) _ _ => d < 1 ∨ 1024 < d
def uPm : uDj → uA1 → uCt → Prop := fun ((d, V, ()), ()) _ ((d2, r2, c2, t2, a2, _), T2, A2, (D2, R2, g2, _), W2, _) => SlOk d r2 c2 t2 a2 T2 A2 (fitV d V) ∧ fitV d V ≠ [] ∧ d2 = d ∧ D2 = d ∧ R2 = 60 ∧ g2 = (W2.length, W2.length) ∧ W2 = fitV d V
def uPl : uDj → uA1 → uCs → Prop := fun ((d, V, ()), ()) _ ((d2, r2, c2, _), (D2, R2, _), _) => fitV d V = [] ∧ 1 ≤ d ∧ d ≤ 1024 ∧ d2 = d ∧ r2 = 60 ∧ c2 = 0 ∧ D2 = d ∧ R2 = 60
noncomputable def uSi (gl : Tr (List AV)) : CallC := callCg gl 0 uVn uPo uKg (uKf uPn uPm uPl)
theorem putGStep {gl : Tr (List AV)} (hg : GlOk gl) (z : uDj) (hp : uKg z) : callW PP (runW PP (KLX [(11, uUs), (14, uVe)] [(6, [(6, uKd gl)])] [82, 26, 23] [] []) 200) 6 (uVn.cells id z.1) (stL true (uPo.obs id z.2) gl (fun u => hasT u [23])) (fun v st => resAny 0 z v st (uKf uPn uPm uPl)) := by
 obtain ⟨⟨d, V, _⟩, _⟩ := z
 refine (putGFn gl d V _ _ _).mpr ?_
 obtain ⟨hl, hvl⟩ := hp
 refine ⟨rfl, rfl, fun c1 d1 h1 => ?_, fun c1 d1 h1 => ?_, trivial⟩
 ·obtain ⟨_, e, _⟩ := c1
  obtain ⟨he, hd⟩ := h1
  obtain rfl : e = 2 := he
  refine ⟨rfl, rfl, fun c2 d2 h2 => ?_, fun c2 d2 h2 => ?_, trivial⟩
  ·rw [ifp_ne, if_neg (show ¬ (2 : Int) = 0 by decide)]
   exact Or.inl ⟨rfl, rfl, rfl, hd⟩
  ·rw [ifp_ne, if_neg (show ¬ (2 : Int) = 0 by decide)]
   exact Or.inl ⟨rfl, rfl, rfl, hd⟩
 ·obtain ⟨_, e, _⟩ := c1
  obtain ⟨⟨d2, r2, c2, _, _, _, _⟩, _⟩ := d1
  obtain ⟨he, hd1, hd2, hdd, hr, hc⟩ := h1
  obtain rfl : e = 0 := he
  obtain rfl : d = d2 := Eq.symm hdd
  obtain rfl : r2 = 60 := hr
  obtain rfl : c2 = 0 := hc
  refine ⟨rfl, rfl, fun c3 d3 h3 => ?_, fun c3 d3 h3 => ?_, trivial⟩
  ·obtain ⟨_, hbad⟩ := h3
   exfalso; omega
  ·obtain ⟨_, e3, _⟩ := c3
   obtain ⟨⟨D2, R2, _, _, _⟩, _⟩ := d3
   obtain ⟨he3, _, _, hD, hR⟩ := h3
   obtain rfl : e3 = 0 := he3
   obtain rfl : d = D2 := Eq.symm hD
   obtain rfl : R2 = 60 := hR
   rw [ifp_ne, if_pos rfl, ifp_ne, if_pos rfl]
   refine ⟨putLOk hg, rfl, trivial, trivial, Or.inr ⟨V, Wk.refl _, rfl, ⟨0, rfl, Nat.zero_le _, hl, hvl, hd1, hd2, rfl, rfl, rfl, rfl, rfl, fun h9 => (by cases h9), fun _ => ⟨rfl, rfl⟩⟩, fun c4 d4 h4 => ?_, fun c4 d4 h4 => ?_, trivial⟩⟩
   ·obtain ⟨⟨d5, r5, c5, t5, a5, _, _⟩, T5, A5, ⟨D5, R5, g5, _, _⟩, W5, _⟩ := d4
    obtain ⟨g1, g2, g3, g4, g5', g6, g7⟩ := h4
    exact Or.inr (Or.inl ⟨T5, rfl, A5, rfl, W5, WkL.refl _, rfl, g1, g2, g3, g4, g5', g6, g7⟩)
   ·obtain ⟨⟨d5, r5, c5, _, _, _, _⟩, ⟨D5, R5, _, _, _⟩, _⟩ := d4
    obtain ⟨g1, g3, g4, g5, g6, g7⟩ := h4
    exact Or.inr (Or.inr ⟨rfl, g1, hd1, hd2, g3, g4, g5, g6, g7⟩)
theorem putGCc {gl : Tr (List AV)} (hg : GlOk gl) : CcOk PP 6 (uSi gl) := call_okg hg.fr mixed (KLX_ok (cc_cons snewCc (cc_cons rnewCc (cc_nil)))) rfl (putGStep hg)
noncomputable def knC (q : List Int) (lo hi : List Int) (i : Nat) (v : List Int) : Cd :=
 let d := uA0 (uAa q) (uAa v)
 if i < lo.length ∧ i < hi.length then
  let A := max 0 (d - uA2 (Int.tmod (lo.getD i 0) 100000) 50000)
  ((1 + i : Nat), A, d - A + uA2 (Int.tmod (hi.getD i 0) 100000) 50000, (i : Nat), ())
 else ((1 + i : Nat), d, 0, (i : Nat), ())
noncomputable def knV (q : List Int) (V : List (List Int)) (lo hi : List Int) : List Cd := (List.range V.length).map fun i => knC q lo hi i (V.getD i [])
theorem uS0 : ∀ a b : List Int, wide a → wide b → 0 ≤ sqs a b ∧ sqs a b ≤ (a.length : Int) * 68719476736
 | [], _, _, _ => by simp [sqs]
 | x :: a, [], _, _ => ⟨by simp [sqs], by simp only [sqs]; exact Int.mul_nonneg (Int.natCast_nonneg _) (by decide)⟩
 | x :: a, y :: b, ha, hb => by
  obtain ⟨h1, h2⟩ := uS0 a b (fun z hz => ha z (by simp [hz])) (fun z hz => hb z (by simp [hz]))
  obtain ⟨h3, h4⟩ := uXc (ha x (by simp)) (hb y (by simp))
  simp only [sqs, List.length_cons]
  exact ⟨by omega, by rw [Int.natCast_succ, Int.add_mul]; omega⟩
theorem uFj (a b : List Int) : 0 ≤ uA0 a b ∧ uA0 a b ≤ 70368744177664 := by
  rw [uA0]
  split
  · rename_i h
    obtain ⟨h1, h2, h3⟩ := uEg h
    obtain ⟨a1, a2, wa⟩ := uC5 h1
    obtain ⟨_, _, wb⟩ := uC5 h2
    have := uS0 a b wa wb
    exact ⟨this.1, by have h9 : (a.length : Int) * 68719476736 ≤ 1024 * 68719476736 := Int.mul_le_mul_of_nonneg_right (by omega) (by decide)
                      omega⟩
  · exact ⟨Int.le_refl _, by decide⟩
theorem kn_out {q lo hi v : List Int} {i : Nat} (h : ¬ (i < lo.length ∧ i < hi.length)) (hi60 : i < 60) : [AV.int .i64 (wrapF .i64 (Int.add 1 (i : Int))), AV.int .i64 (uA0 (uAa q) (uAa v)), AV.int .i64 0, AV.int .i64 (i : Int)] = Ec.f (knC q lo hi i v) := by
 have e1 : wrapF .i64 (Int.add 1 (i : Int)) = ((1 + i : Nat) : Int) := by rw [show Int.add 1 (i : Int) = ((1 + i : Nat) : Int) by show (1 : Int) + i = _; omega, w64 (by omega) (by omega)]
 rw [knC, e1]; simp only [if_neg h]; rfl
theorem uCg (q : List Int) (V : List (List Int)) (lo hi : List Int) : (knV q V lo hi).length = V.length := by simp [knV]
end Go.Proofs.YteehkdejkemnmaaDoor
namespace Go.Proofs.YteehkdejkemnmaaDoor
open Go.Det Go.RowKit
set_option maxRecDepth 100000
theorem weakLess : Stab.Weak uAe where
 irr := uAw.irr
 tr a b c h1 h2 := uAw.tr _ _ _ h1 h2
 ntr a b c h1 h2 := uAw.le_tr (a := c) (b := b) (c := a) h2 h1
theorem uEj (l : List Near) : uAi l = Stab.sort uAe l := uBn (uAv l) (Stab.sort_srt weakLess l) ((uAr l).trans (Stab.sort_perm l).symm)
def topL (k : Int) (X : List Near) : List Near := (uAi X).take k.toNat
theorem uLk (k : Int) (X : List Near) : (topL k X).length = min k.toNat X.length := by rw [topL, List.length_take, uDd]
theorem uFq (k : Int) (X : List Near) : Srt (topL k X) := (uAv X).sublist (List.take_sublist _ _)
theorem uHw {X Y : List Near} (k : Int) (h : X.Perm Y) : topL k X = topL k Y := by
 rw [topL, topL, uBn (uAv X) (uAv Y) ((uAr X).trans (h.trans (uAr Y).symm))]
theorem uTw {L : List Near} (h : Srt L) (n : Near) : insV L n = Stab.mg uAe L [n] := by
 have h1 : insV L n = uAi (L ++ [n]) := uBn (uC4 h n) (uAv _) (((uHh L n).trans (List.perm_append_comm (l₁ := [n]) (l₂ := L))).trans (uAr _).symm)
 rw [h1, uEj, Stab.sort_snoc, Stab.sort_id h]
theorem top_snoc (k : Int) (X : List Near) (n : Near) : topL k (X ++ [n]) = (insV (topL k X) n).take k.toNat := by
 rw [uTw (uFq k X), topL, topL, uEj, uEj, Stab.sort_snoc, ← Stab.mg_take k.toNat _ [n] k.toNat (k.toNat + 1) (Nat.le_refl _) (Nat.le_succ _)]
 rw [show [n].take (k.toNat + 1) = [n] by simp]
theorem uLz {k : Int} (k0 : 0 ≤ k) (X : List Near) (n : Near) : uAn k (topL k X) n = topL k (X ++ [n]) := by
 rw [top_snoc]
 rw [uAn]
 split
 ·rfl
 ·rename_i hk
  have hk' : uCw k (topL k X) n = false := by simpa using hk
  simp only [uCw, Bool.not_eq_false', Bool.and_eq_true, decide_eq_true_eq, Bool.or_eq_true] at hk'
  obtain ⟨h1, h2⟩ := hk'
  have hl : (topL k X).length = k.toNat := by omega
  rw [uTw (uFq k X)]
  rcases h2 with h2 | h2
  ·have : k.toNat = 0 := by omega
   rw [this, List.take_zero]
   exact List.length_eq_zero_iff.1 (by omega)
  ·have hn : ∀ x ∈ topL k X, uAe n x = false := by
    intro x hx
    obtain ⟨i, hi, rfl⟩ := List.getElem_of_mem hx
    obtain ⟨p, hp⟩ : ∃ p, (topL k X).length = p + 1 := ⟨(topL k X).length - 1, by omega⟩
    rw [uCe n hp] at h2
    have h2' : uAe n ((topL k X)[p]'(by omega)) = false := by simpa using h2
    exact uAw.le_tr ((uFq k X).get hi (by omega) (by omega)) h2'
   have := Stab.mg_split (lt := uAe) _ (topL k X) [] [] [n] (Nat.le_refl _) (fun x hx y hy => by simp at hy; subst hy; exact hn x hx) (fun y hy => by cases hy)
   simp only [List.append_nil, List.nil_append, Stab.mg_nil, Stab.mg_nil'] at this
   rw [this, List.take_append_of_le_length (by omega), List.take_of_length_le (by omega)]
theorem uNq (k : Int) : topL k [] = [] := by simp [topL, uAi]
structure Good (fr : List Int) (V : List (List Int)) (c : Cd) : Prop where
 e : (uAu fr V c).2 = 0
 d : 0 ≤ (uAu fr V c).1.1
 b : lowV c ≤ (uAu fr V c).1.1
def I16 (l : List Int) : Prop := ∀ x ∈ l, -32768 ≤ x ∧ x < 32768
theorem wide16 {l : List Int} (h : I16 l) : uAa l = l := by
 rw [uAa]
 have e : l.map (wrapF .i32) = l.map id := List.map_congr_left fun x hx => by
  have := h x hx
  exact w32 (by omega) (by omega)
 rw [e, List.map_id]
theorem cw16 {l : List Int} (h : I16 l) (h1 : 1 ≤ l.length) (h2 : l.length ≤ 1024) : cw (uAa l) = 0 := by
 rw [wide16 h, cw, if_neg (by omega), if_neg]
 rw [Bool.not_eq_true, List.any_eq_false]
 intro x hx
 have := h x hx
 simp [uAs]; omega
theorem pair16 {a b : List Int} (ha : I16 a) (hb : I16 b) (h1 : 1 ≤ a.length) (h2 : a.length ≤ 1024) (h : b.length = a.length) : uA7 (uAa a) (uAa b) = 0 := by
 have e1 := cw16 ha h1 h2
 have e2 := cw16 hb (by omega) (by omega)
 rw [uA7, if_neg (by rw [e1]; simp), if_neg (by rw [e2]; simp), if_neg (by rw [uCo, uCo]; omega)]
noncomputable def dn (q : List Int) (V : List (List Int)) (i : Nat) : Near := (uA0 (uAa q) (uAa (V.getD i [])), ((1 + i : Nat) : Int), ())
noncomputable def dnV (q : List Int) (V : List (List Int)) : List Near := (List.range V.length).map (dn q V)
theorem uIl {q : List Int} {V : List (List Int)} {lo hi : List Int} {c : Cd} (h : c ∈ knV q V lo hi) : ∃ i, i < V.length ∧ c = knC q lo hi i (V.getD i []) := by
 rw [knV] at h
 obtain ⟨i, hi', rfl⟩ := List.mem_map.1 h
 exact ⟨i, by simpa using hi', rfl⟩
theorem uIk (q lo hi v : List Int) (i : Nat) : (knC q lo hi i v).1 = ((1 + i : Nat) : Int) ∧ (knC q lo hi i v).2.2.2.1 = (i : Int) ∧ mayC (knC q lo hi i v) = true ∧ lowV (knC q lo hi i v) ≤ uA0 (uAa q) (uAa v) := by
 obtain ⟨d1, d2⟩ := uFj (uAa q) (uAa v)
 have hmay : mayC (knC q lo hi i v) = true ∧ (knC q lo hi i v).2.1 - (knC q lo hi i v).2.2.1 ≤ uA0 (uAa q) (uAa v) := by
  rw [uCd, knC]
  simp only
  split
  ·obtain ⟨p1, p2⟩ := uC1 (n := Int.tmod (lo.getD i 0) 100000) (m := 50000) (by decide)
   obtain ⟨r1, r2⟩ := uC1 (n := Int.tmod (hi.getD i 0) 100000) (m := 50000) (by decide)
   simp only
   omega
  ·simp only
   omega
 refine ⟨?_, ?_, hmay.1, ?_⟩
 ·rw [knC]; simp only; split <;> rfl
 ·rw [knC]; simp only; split <;> rfl
 ·rw [uGy hmay.1]; exact hmay.2
theorem uQu (q : List Int) (V : List (List Int)) (lo hi : List Int) : (knV q V lo hi).all mayC = true := by
 rw [List.all_eq_true]
 intro c hc
 obtain ⟨i, _, rfl⟩ := uIl hc
 exact (uIk q lo hi _ i).2.2.1
theorem uK4 {q : List Int} {V : List (List Int)} {lo hi : List Int} {i : Nat} (h : i < V.length) (hq : I16 q) (hV : ∀ v ∈ V, I16 v ∧ v.length = q.length) (h1 : 1 ≤ q.length) (h2 : q.length ≤ 1024) : uAu (uAa q) V (knC q lo hi i (V.getD i [])) = (dn q V i, 0) := by
 obtain ⟨a1, a2, _⟩ := uIk q lo hi (V.getD i []) i
 have hm := hV _ (List.getElem_mem h)
 have hg : V.getD i [] = V[i] := by simp [List.getD_eq_getElem?_getD, h]
 have e := uD8 (fr := uAa q) (c := knC q lo hi i (V.getD i [])) a2 h
 rw [← e, a1, dn, hg, pair16 hq hm.1 h1 h2 hm.2]
theorem uMv {q : List Int} {V : List (List Int)} {lo hi : List Int} (hq : I16 q) (hV : ∀ v ∈ V, I16 v ∧ v.length = q.length) (h1 : 1 ≤ q.length) (h2 : q.length ≤ 1024) : (knV q V lo hi).map (fun c => (uAu (uAa q) V c).1) = dnV q V := by
 rw [knV, dnV, List.map_map]
 refine List.map_congr_left fun i hi' => ?_
 show (uAu (uAa q) V (knC q lo hi i (V.getD i []))).1 = dn q V i
 rw [uK4 (lo := lo) (hi := hi) (by simpa using hi') hq hV h1 h2]
theorem uTv {q : List Int} {V : List (List Int)} {lo hi : List Int} {k : Int} (h1 : 1 ≤ q.length) (h2 : q.length ≤ 1024) (k0 : 0 ≤ k) (k1 : k ≤ 16777216) : chkE q (knV q V lo hi) k = 0 := by
 have : vchk q q.length = 0 := by rw [vchk, if_neg (by omega)]
 rw [chkE, if_neg (by rw [this]; simp), if_neg (by rw [uQu]; simp; omega)]
theorem dn_len (q : List Int) (V : List (List Int)) : (dnV q V).length = V.length := by simp [dnV]
structure TopFull (q : List Int) (V : List (List Int)) (full : List Near) : Prop where
 m : ∀ n ∈ full, ∃ i, i < V.length ∧ n = dn q V i
 s : ∀ i (h : i + 1 < full.length), full[i].1 < full[i + 1].1 ∨ full[i].1 = full[i + 1].1 ∧ full[i].2.1 < full[i + 1].2.1
 o : ∀ i, i < V.length → dn q V i ∉ full → ∀ (p : Nat) (h : p + 1 = full.length), ¬ ((dn q V i).1 < full[p].1 ∨ (dn q V i).1 = full[p].1 ∧ (dn q V i).2.1 < full[p].2.1)
theorem uBs {l : List Near} (h : Srt l) : uAi l = l := uBn (uAv l) h (uAr l)
def uBb (k : Int) (F : List Near) (a : Int) : Bool := decide ((F.length : Int) < k ∨ a ≤ (F.getD (k.toNat - 1) (0, 0, ())).1)
theorem want_f {k : Int} {F : List Near} {a b : Int} (h : uBb k F a = false) (hab : a ≤ b) : uBb k F b = false := by
 rw [uBb, decide_eq_false_iff_not] at *; omega
theorem ex_key {k : Int} (k0 : 0 < k) {X rest Y : List Near} {n : Near} (hY : Y = X ++ n :: rest) (hS : Srt Y) :
  ((uAf k (topL k X)).2 = true ∧ (uAf k (topL k X)).1.1 < n.1) ↔ uBb k (topL k Y) n.1 = false := by
 have tX : topL k X = X.take k.toNat := by rw [topL, uBs (hS.sublist (by rw [hY]; exact List.sublist_append_left _ _))]
 have tY : topL k Y = Y.take k.toNat := by rw [topL, uBs hS]
 have hYl : Y.length = X.length + (rest.length + 1) := by rw [hY]; simp
 by_cases hx : X.length < k.toNat
 ·constructor
  ·rintro ⟨h1, _⟩
   rw [uAf, if_pos (by rw [tX, List.length_take]; omega)] at h1; cases h1
  ·intro h; exfalso
   rw [uBb, decide_eq_false_iff_not] at h
   apply h
   by_cases hy : Y.length < k.toNat
   ·left; rw [tY, List.length_take]; omega
   ·right
    have e1 : (topL k Y).getD (k.toNat - 1) (0, 0, ()) = Y[k.toNat - 1]'(by omega) := by
     rw [tY, List.getD_eq_getElem?_getD, List.getElem?_take_of_lt (by omega), List.getElem?_eq_getElem (by omega)]; rfl
    have e2 : Y[X.length]'(by omega) = n := by simp [hY]
    have h3 := hS.get (i := X.length) (j := k.toNat - 1) (by omega) (by omega) (by omega)
    rw [e2, ← Bool.not_eq_true, uAz] at h3
    rw [e1]; omega
 ·have e : topL k X = topL k Y := by rw [tX, tY, hY, List.take_append_of_le_length (by omega)]
  have hl : (topL k Y).length = (k.toNat - 1) + 1 := by rw [tY, List.length_take]; omega
  have e1 : (topL k Y).getD (k.toNat - 1) (0, 0, ()) = (topL k Y)[k.toNat - 1]'(by omega) := by rw [List.getD_eq_getElem?_getD, List.getElem?_eq_getElem (by omega)]; rfl
  rw [e, uAf, if_neg (by omega), uBb, decide_eq_false_iff_not, e1]
  simp only [uCe _ hl, true_and]
  omega
theorem uTy {fr : List Int} {V : List (List Int)} {k : Int} (k0 : 0 < k) : ∀ (cs : List Cd) (X R Y : List Near), Y = X ++ cs.map (fun c => (uAu fr V c).1) → Srt Y → (∀ c ∈ cs, (uAu fr V c).2 = 0 ∧ (uAu fr V c).1.1 = lowV c) →
  ∃ T, exF fr V k cs (topL k X) R = ((topL k Y, R ++ T), 0) ∧ T.length = (cs.filter fun c => uBb k (topL k Y) (lowV c)).length
 | [], X, R, Y, hY, _, _ => ⟨[], by rw [hY]; simp [exF], rfl⟩
 | c :: cs, X, R, Y, hY, hS, hG => by
  have hYX : Y = X ++ (uAu fr V c).1 :: cs.map (fun c => (uAu fr V c).1) := by rw [hY]; simp
  obtain ⟨g1, g2⟩ := hG c (by simp)
  have key := ex_key k0 hYX hS
  rw [g2] at key
  rw [exF]
  by_cases hb : (uAf k (topL k X)).2 = true ∧ (uAf k (topL k X)).1.1 < lowV c
  ·rw [if_pos hb]
   have hw := key.1 hb
   have hx : ¬ X.length < k.toNat := fun hx => by
    have h1 := hb.1
    rw [uAf, if_pos (by rw [uLk]; omega)] at h1; cases h1
   refine ⟨[], ?_, ?_⟩
   ·have e : topL k X = topL k Y := by
     rw [topL, topL, uBs hS, uBs (hS.sublist (by rw [hYX]; exact List.sublist_append_left _ _)), hYX, List.take_append_of_le_length (by omega)]
    rw [e]; simp
   ·symm
    show List.length _ = 0
    rw [List.length_eq_zero_iff, List.filter_eq_nil_iff]
    intro d hd
    rw [Bool.not_eq_true]
    rcases List.mem_cons.1 hd with rfl | hd
    ·exact hw
    ·refine want_f hw ?_
     have h2 : Srt ((uAu fr V c).1 :: cs.map (fun c => (uAu fr V c).1)) := (List.pairwise_append.1 (by rw [hYX] at hS; exact hS)).2.1
     have h3 := (List.pairwise_cons.1 h2).1 _ (List.mem_map.2 ⟨d, hd, rfl⟩)
     rw [← Bool.not_eq_true, uAz, (hG d (by simp [hd])).2, g2] at h3
     omega
  ·rw [if_neg hb, if_neg (by simp [g1]), uLz (by omega)]
   obtain ⟨T, h1, h2⟩ := uTy k0 cs (X ++ [(uAu fr V c).1]) (R ++ [(c.1, (if (uAf k (topL k X)).2 = true then (uAf k (topL k X)).1.1 else -1), ())]) Y (by rw [hYX]; simp) hS (fun d hd => hG d (by simp [hd]))
   refine ⟨(c.1, (if (uAf k (topL k X)).2 = true then (uAf k (topL k X)).1.1 else -1), ()) :: T, by rw [h1]; simp, ?_⟩
   have hw : uBb k (topL k Y) (lowV c) = true := by
    cases hw : uBb k (topL k Y) (lowV c) with
    | true => rfl
    | false => exact absurd (key.2 hw) hb
   rw [List.filter_cons_of_pos (p := fun c => uBb k (topL k Y) (lowV c)) hw]; simp [h2]
theorem uTz {fr : List Int} {V : List (List Int)} {k : Int} (k0 : 0 < k) : ∀ (cs : List Cd) (X R : List Near), (∀ c ∈ cs, (uAu fr V c).2 = 0 ∧ 0 ≤ (uAu fr V c).1.1 ∧ lowV c < 0) → (∀ n ∈ X, 0 ≤ n.1) →
  ∃ T, exF fr V k cs (topL k X) R = ((topL k (X ++ cs.map fun c => (uAu fr V c).1), R ++ T), 0) ∧ T.length = cs.length
 | [], X, R, _, _ => ⟨[], by simp [exF], rfl⟩
 | c :: cs, X, R, hG, hX => by
  obtain ⟨g1, g2, g3⟩ := hG c (by simp)
  have hb : ¬ ((uAf k (topL k X)).2 = true ∧ (uAf k (topL k X)).1.1 < lowV c) := by
   rintro ⟨h1, h2⟩
   rw [uAf] at h1 h2
   split at h1
   ·cases h1
   ·rename_i hn
    rw [if_neg hn] at h2
    obtain ⟨p, hp⟩ : ∃ p, (topL k X).length = p + 1 := ⟨(topL k X).length - 1, by omega⟩
    have hm : (topL k X).getLastD (0, 0, ()) ∈ X := by
     rw [uCe _ hp]
     exact (uAr X).mem_iff.1 ((List.take_sublist _ _).mem (List.getElem_mem _))
    have := hX _ hm
    have h3 : ((topL k X).getLastD (0, 0, ())).1 < lowV c := h2
    omega
  rw [exF, if_neg hb, if_neg (by simp [g1]), uLz (by omega)]
  obtain ⟨T, h1, h2⟩ := uTz k0 cs (X ++ [(uAu fr V c).1]) (R ++ [(c.1, (if (uAf k (topL k X)).2 = true then (uAf k (topL k X)).1.1 else -1), ())]) (fun d hd => hG d (by simp [hd])) (fun n hn => by
   rcases List.mem_append.1 hn with h | h
   ·exact hX n h
   ·obtain rfl := List.mem_singleton.1 h; exact g2)
  exact ⟨(c.1, (if (uAf k (topL k X)).2 = true then (uAf k (topL k X)).1.1 else -1), ()) :: T, by rw [h1]; simp, by simp [h2]⟩
def wdC (c : Cd) : Cd := (c.1, c.2.1, 140737488355328, c.2.2.2.1, ())
theorem uMw {q v : List Int} {i : Nat} : lowV (knC q [] [] i v) = uA0 (uAa q) (uAa v) ∧ (knC q [] [] i v).2.1 = uA0 (uAa q) (uAa v) := by
 have h := (uIk q [] [] v i).2.2.1
 rw [uGy h]
 have e : knC q [] [] i v = (((1 + i : Nat) : Int), uA0 (uAa q) (uAa v), 0, (i : Int), ()) := by rw [knC]; simp
 rw [e]
 exact ⟨by show uA0 (uAa q) (uAa v) - (0 : Int) = _; omega, rfl⟩
theorem wd_may {l : List Cd} (h : l.all mayC = true) : (l.map wdC).all mayC = true := by
 rw [List.all_eq_true] at *
 intro c hc
 obtain ⟨d, hd, rfl⟩ := List.mem_map.1 hc
 have := uCd.1 (h d hd)
 rw [uCd, wdC]
 exact ⟨this.1, (by decide : (0 : Int) ≤ 140737488355328), (by decide : (140737488355328 : Int) ≤ 281474976710656)⟩
theorem narrow_one {q : List Int} {V : List (List Int)} {k : Int} (hq : I16 q) (hV : ∀ v ∈ V, I16 v ∧ v.length = q.length) (h1 : 1 ≤ q.length) (h2 : q.length ≤ 1024) (k0 : 0 < k) (k1 : k ≤ 16777216) :
  ∃ T, exV q (knV q V [] []) V k = ((topL k (dnV q V), T), 0) ∧ T.length = ((knV q V [] []).filter fun c => uBb k (topL k (dnV q V)) c.2.1).length := by
 have hc : chkE q (knV q V [] []) k = 0 := uTv h1 h2 (by omega) k1
 have hm := uQu q V [] []
 have hp : (uBk (knV q V [] [])).Perm (knV q V [] []) := Stab.sort_perm (lt := ltC) _
 have hr : ∀ c ∈ knV q V [] [], uAu (uAa q) V c = ((lowV c, c.1, ()), 0) := fun c h => by
  obtain ⟨i, hi, rfl⟩ := uIl h
  rw [uK4 hi hq hV h1 h2, uMw.1, dn, (uIk q [] [] _ i).1]
 have ho : ordC (knV q V [] []) = uBk (knV q V [] []) := by rw [ordC, if_pos hm]
 have hS : Srt ((uBk (knV q V [] [])).map fun c => (uAu (uAa q) V c).1) := by
  rw [Srt, List.pairwise_map]
  refine (Stab.sort_srt uEy (knV q V [] [])).imp_of_mem fun {a b} ha hb h => ?_
  have h' : ltC b a = false := h
  rw [hr a (hp.mem_iff.1 ha), hr b (hp.mem_iff.1 hb)]
  rw [← Bool.not_eq_true, uG1] at h'
  rw [← Bool.not_eq_true, uAz]
  exact h'
 have et : topL k ((uBk (knV q V [] [])).map fun c => (uAu (uAa q) V c).1) = topL k (dnV q V) := uHw k (by
  rw [← uMv (lo := []) (hi := []) hq hV h1 h2]; exact hp.map _)
 obtain ⟨T, e1, e2⟩ := uTy (fr := uAa q) (V := V) k0 (uBk (knV q V [] [])) [] [] _ (List.nil_append _).symm hS (fun c h => by rw [hr c (hp.mem_iff.1 h)]; exact ⟨rfl, rfl⟩)
 rw [et, uNq] at e1
 rw [et] at e2
 refine ⟨T, ?_, ?_⟩
 ·rw [exV, if_neg (by rw [hc]; rintro (h | h); exact h rfl; omega), ho, e1]; rfl
 ·rw [e2, (hp.filter _).length_eq]
  congr 1
  refine List.filter_congr fun c h => ?_
  obtain ⟨i, hi, rfl⟩ := uIl h
  rw [uMw.1, uMw.2]
theorem narrow_two {q : List Int} {V : List (List Int)} {k : Int} (hq : I16 q) (hV : ∀ v ∈ V, I16 v ∧ v.length = q.length) (h1 : 1 ≤ q.length) (h2 : q.length ≤ 1024) (k0 : 0 < k) (k1 : k ≤ 16777216) :
  ∃ T, exV q ((knV q V [] []).map wdC) V k = ((topL k (dnV q V), T), 0) ∧ T.length = V.length := by
 have hm := wd_may (uQu q V [] [])
 have hc : chkE q ((knV q V [] []).map wdC) k = 0 := by
  have : vchk q q.length = 0 := by rw [vchk, if_neg (by omega)]
  rw [chkE, if_neg (by rw [this]; simp), if_neg (by rw [hm]; simp; omega)]
 have hp : (uBk ((knV q V [] []).map wdC)).Perm ((knV q V [] []).map wdC) := Stab.sort_perm (lt := ltC) _
 have ho : ordC ((knV q V [] []).map wdC) = uBk ((knV q V [] []).map wdC) := by rw [ordC, if_pos hm]
 have hr : ∀ c ∈ (knV q V [] []).map wdC, (uAu (uAa q) V c).2 = 0 ∧ 0 ≤ (uAu (uAa q) V c).1.1 ∧ lowV c < 0 := fun c h => by
  have hmc := List.all_eq_true.1 hm c h
  obtain ⟨d, hd, rfl⟩ := List.mem_map.1 h
  obtain ⟨i, hi, rfl⟩ := uIl hd
  have e : uAu (uAa q) V (wdC (knC q [] [] i (V.getD i []))) = uAu (uAa q) V (knC q [] [] i (V.getD i [])) := rfl
  rw [e, uK4 hi hq hV h1 h2, uGy hmc]
  obtain ⟨d1, d2⟩ := uFj (uAa q) (uAa (V.getD i []))
  refine ⟨rfl, d1, ?_⟩
  show (knC q [] [] i (V.getD i [])).2.1 - 140737488355328 < 0
  rw [uMw.2]; omega
 have et : topL k (([] : List Near) ++ (uBk ((knV q V [] []).map wdC)).map fun c => (uAu (uAa q) V c).1) = topL k (dnV q V) := uHw k (by
  rw [← uMv (lo := []) (hi := []) hq hV h1 h2, List.nil_append]
  refine (hp.map _).trans ?_
  rw [List.map_map]; exact List.Perm.refl _)
 obtain ⟨T, e1, e2⟩ := uTz (fr := uAa q) (V := V) k0 (uBk ((knV q V [] []).map wdC)) [] [] (fun c h => hr c (hp.mem_iff.1 h)) (fun n h => by cases h)
 rw [et, uNq] at e1
 refine ⟨T, ?_, ?_⟩
 ·rw [exV, if_neg (by rw [hc]; rintro (h | h); exact h rfl; omega), ho, e1]; rfl
 ·rw [e2, hp.length_eq, List.length_map, uCg]
end Go.Proofs.YteehkdejkemnmaaDoor
namespace Go.Proofs.YteehkdejkemnmaaDoor
open Go.Det Go.RowKit
set_option maxRecDepth 100000
theorem uQv {q v : List Int} {i : Nat} (h : i < 60) (L : List Cd) : L.flatMap Ec.f ++ [AV.int .i64 (wrapF .i64 (Int.add 1 (i : Int))), AV.int .i64 (uA0 (uAa q) (uAa v)), AV.int .i64 0, AV.int .i64 (i : Int)] = (L ++ [knC q [] [] i v]).flatMap Ec.f := by
 rw [kn_out (lo := []) (hi := []) (by simp) h, List.flatMap_append]; simp
theorem uQt {q : List Int} {V : List (List Int)} {k : Nat} (h : k < V.length) {L : List Cd} (ho : L = (List.range k).map (fun i => knC q [] [] i (V.getD i []))) : (List.range (k + 1)).map (fun i => knC q [] [] i (V.getD i [])) = L ++ [knC q [] [] k V[k]] := by
 rw [List.range_succ, List.map_append, ← ho]; simp [List.getD_eq_getElem?_getD, List.getElem?_eq_getElem h]
abbrev uB4 := Nat × Nat
abbrev uTd := (List Int) × (List (List Int)) × Unit × Unit × uB4 × Int × Unit
abbrev knRZ := (uTd × ((List Cd) × Unit)) × Bool
noncomputable def uWf : Tel uTd := .cons 0 (.lst Ei16) (.cons 1 (.lst Evl) (.cons 2 (.nilS) (.cons 3 (.nilS) (.cons 9 (.slq 0 4) (.ji 10 (.nil))))))
noncomputable def uWh : BTel ((List Cd) × Unit) := .cons (.rows Ec 42) (.nil)
abbrev uTc := (List Int) × (List (List Int)) × Unit × Unit × Unit × Int × Unit
noncomputable def uQw : Tel uTc := .cons 0 (.lst Ei16) (.cons 1 (.lst Evl) (.cons 2 (.nilS) (.cons 3 (.nilS) (.cons 9 (.nilS) (.ji 10 (.nil))))))
noncomputable def uQy : BTel (Unit) := .nil
noncomputable def uWe : uTc → (Unit) → knRZ := fun (q, V, (), (), (), i, ()) () => (((q, V, (), (), (0, 0), i, ()), [], ()), false)
noncomputable def uQx : List (LForm knRZ) := [⟨_, _, uWf, uWh, fun x y => ((x, y), true)⟩, ⟨_, _, uQw, uQy, uWe⟩]
abbrev uH4 := uB4 × Unit
abbrev uGj := (List Cd) × Unit
abbrev uCf := Unit × Unit
noncomputable def uEr (R0 : knRZ → uH4 → uGj → Prop) (R1 : knRZ → uCf → (Unit) → Prop) : List (Alt knRZ) := [⟨.exit 0, uH4, uGj, .cons 9 (.slq 0 4) (.nil), .cons (.rows Ec 42) (.nil), R0⟩, ⟨.exit 0, Unit × Unit, Unit, .cons 9 (.nilS) (.nil), .nil, R1⟩]
noncomputable abbrev uMe := KLX [(18, uS3), (17, uS7)] [] [42] [] []
theorem knRForm (q : List Int) (V : List (List Int)) (o : Nat × Nat) (i : Int) (L : List Cd) (N : knRZ → Prop) (R0 : knRZ → uH4 → uGj → Prop) (R1 : knRZ → uCf → (Unit) → Prop) : ((runW PP uMe 100).code none 8 73 (loopBody PP 8 3) (mkT (uWf.av id (q, V, (), (), o, i, ()))) [] (stL true (uWh.obs id (L, ())) .leaf (fun u => hasT u [42])) (postL 0 uQx (uEr R0 R1) (((q, V, (), (), o, i, ()), L, ()), true) N)) = ( ifp (!leInt (Int.ofNat V.length) i) (∃ l, Wv Ei16 q l ∧ uCc (l, ()) ∧ idxOk i V.length ∧ ∃ l' n c x w e, nth ((natOf i).mul 1) (V.flatMap Evl.f) = some (AV.vs l' n c x w e) ∧ ∃ (l_1 : List Int), Wk (AV.vs l' n c x w e) (lst Ei16 l_1) ∧ uCc (l_1, ()) ∧ ∃ l_2, Wv Ei32 (uAa l) l_2 ∧ ∃ l, Wv Ei32 (uAa l_1) l ∧ uDo (l_2, l, ()) ∧ ((∃ (l'_1 : List AV), ∃ (n_1 : Nat), ∃ (c_1 : Nat), ∃ (x_1 : Bool), ∃ (w_1 : Option Nat), ∃ (e_1 : Nat), nth ((natOf i).mul 1) (V.flatMap Evl.f) = some (AV.vs l'_1 n_1 c_1 x_1 w_1 e_1) ∧ AV.vs l'_1 n_1 c_1 x_1 w_1 e_1 = AV.vs l' n c x w e) ∧ True) ∧ 4 ≤ 4 ∧ ifp (!leInt 0 i) (ifp (!leInt 0 i) False (∃ x : Int, some (I64 (wrapF .i64 (Int.add 1 i))) = some (I64 x) ∧ ∃ x_1 : Int, some (I64 (uA0 l_2 l)) = some (I64 x_1) ∧ ∃ x_2 : Int, some (I64 0) = some (I64 x_2) ∧ ∃ x_3 : Int, some (I64 i) = some (I64 x_3) ∧ 4 ≤ 4 ∧ (o.2 < o.1.add 1 ∧ 0 = 0 ∧ o.1.mul 4 = (L.flatMap Ec.f).length ∧ roomy (o.1.add 1) 32 = true ∧ True ∧ ((∃ l, Wv Ei16 q l ∧ ∃ l_3, Wv Evl V l_3 ∧ ∃ (l_4 : List Cd), L.flatMap Ec.f ++ [I64 x, I64 x_1, I64 x_2, I64 x_3] = l_4.flatMap Ec.f ∧ true = true ∧ N (((l, l_3, (), (), (o.1.add 1, o.1.add 1), wrapF .i64 (i.add 1), ()), l_4, ()), true)) ∨ ∃ l, Wv Ei16 q l ∧ ∃ l, Wv Evl V l ∧ False) ∨ o.1.add 1 ≤ o.2 ∧ 1 ≠ 0 ∧ (Nat.add 0 (o.1.mul 4)).add 4 ≤ (L.flatMap Ec.f).length ∧ True ∧ ((∃ l, Wv Ei16 q l ∧ ∃ l_3, Wv Evl V l_3 ∧ ∃ (l_4 : List Cd), setAt (Nat.add 0 (o.1.mul 4)) [I64 x, I64 x_1, I64 x_2, I64 x_3] (L.flatMap Ec.f) = l_4.flatMap Ec.f ∧ true = true ∧ N (((l, l_3, (), (), (o.1.add 1, o.2), wrapF .i64 (i.add 1), ()), l_4, ()), true)) ∨ ∃ l, Wv Ei16 q l ∧ ∃ l, Wv Evl V l ∧ False)))) (∃ x : Int, some (I64 (wrapF .i64 (Int.add 1 i))) = some (I64 x) ∧ ∃ x_1 : Int, some (I64 (uA0 l_2 l)) = some (I64 x_1) ∧ ∃ x_2 : Int, some (I64 0) = some (I64 x_2) ∧ ∃ x_3 : Int, some (I64 i) = some (I64 x_3) ∧ 4 ≤ 4 ∧ (o.2 < o.1.add 1 ∧ 0 = 0 ∧ o.1.mul 4 = (L.flatMap Ec.f).length ∧ roomy (o.1.add 1) 32 = true ∧ True ∧ ((∃ l, Wv Ei16 q l ∧ ∃ l_3, Wv Evl V l_3 ∧ ∃ (l_4 : List Cd), L.flatMap Ec.f ++ [I64 x, I64 x_1, I64 x_2, I64 x_3] = l_4.flatMap Ec.f ∧ true = true ∧ N (((l, l_3, (), (), (o.1.add 1, o.1.add 1), wrapF .i64 (i.add 1), ()), l_4, ()), true)) ∨ ∃ l, Wv Ei16 q l ∧ ∃ l, Wv Evl V l ∧ False) ∨ o.1.add 1 ≤ o.2 ∧ 1 ≠ 0 ∧ (Nat.add 0 (o.1.mul 4)).add 4 ≤ (L.flatMap Ec.f).length ∧ True ∧ ((∃ l, Wv Ei16 q l ∧ ∃ l_3, Wv Evl V l_3 ∧ ∃ (l_4 : List Cd), setAt (Nat.add 0 (o.1.mul 4)) [I64 x, I64 x_1, I64 x_2, I64 x_3] (L.flatMap Ec.f) = l_4.flatMap Ec.f ∧ true = true ∧ N (((l, l_3, (), (), (o.1.add 1, o.2), wrapF .i64 (i.add 1), ()), l_4, ()), true)) ∨ ∃ l, Wv Ei16 q l ∧ ∃ l, Wv Evl V l ∧ False)))) ((True ∧ ∃ l, Sa Ec L l ∧ true = true ∧ R0 (((q, V, (), (), o, i, ()), L, ()), true) (o, ()) (l, ())) ∨ True ∧ False)) := by kernel_rfl
theorem knRForm0 (q : List Int) (V : List (List Int)) (i : Int) (N : knRZ → Prop) (R0 : knRZ → uH4 → uGj → Prop) (R1 : knRZ → uCf → (Unit) → Prop) : ((runW PP uMe 100).code none 8 73 (loopBody PP 8 3) (mkT (uQw.av id (q, V, (), (), (), i, ()))) [] (stL true (uQy.obs id ()) .leaf (fun u => hasT u [42])) (postL 0 uQx (uEr R0 R1) (uWe (q, V, (), (), (), i, ()) ()) N)) = ( ifp (!leInt (Int.ofNat V.length) i) (∃ l, Wv Ei16 q l ∧ uCc (l, ()) ∧ idxOk i V.length ∧ ∃ l' n c x w e, nth ((natOf i).mul 1) (V.flatMap Evl.f) = some (AV.vs l' n c x w e) ∧ ∃ (l_1 : List Int), Wk (AV.vs l' n c x w e) (lst Ei16 l_1) ∧ uCc (l_1, ()) ∧ ∃ l_2, Wv Ei32 (uAa l) l_2 ∧ ∃ l, Wv Ei32 (uAa l_1) l ∧ uDo (l_2, l, ()) ∧ ((∃ (l'_1 : List AV), ∃ (n_1 : Nat), ∃ (c_1 : Nat), ∃ (x_1 : Bool), ∃ (w_1 : Option Nat), ∃ (e_1 : Nat), nth ((natOf i).mul 1) (V.flatMap Evl.f) = some (AV.vs l'_1 n_1 c_1 x_1 w_1 e_1) ∧ AV.vs l'_1 n_1 c_1 x_1 w_1 e_1 = AV.vs l' n c x w e) ∧ True) ∧ 4 ≤ 4 ∧ ifp (!leInt 0 i) (ifp (!leInt 0 i) False (∃ x : Int, some (I64 (wrapF .i64 (Int.add 1 i))) = some (I64 x) ∧ ∃ x_1 : Int, some (I64 (uA0 l_2 l)) = some (I64 x_1) ∧ ∃ x_2 : Int, some (I64 0) = some (I64 x_2) ∧ ∃ x_3 : Int, some (I64 i) = some (I64 x_3) ∧ 4 ≤ 4 ∧ 1 ≠ 0 ∧ true = true ∧ True ∧ ((∃ l, Wv Ei16 q l ∧ ∃ l_3, Wv Evl V l_3 ∧ ∃ (l_4 : List Cd), [I64 x, I64 x_1, I64 x_2, I64 x_3] = l_4.flatMap Ec.f ∧ true = true ∧ N (((l, l_3, (), (), (1, 1), wrapF .i64 (i.add 1), ()), l_4, ()), true)) ∨ ∃ l, Wv Ei16 q l ∧ ∃ l, Wv Evl V l ∧ False))) (∃ x : Int, some (I64 (wrapF .i64 (Int.add 1 i))) = some (I64 x) ∧ ∃ x_1 : Int, some (I64 (uA0 l_2 l)) = some (I64 x_1) ∧ ∃ x_2 : Int, some (I64 0) = some (I64 x_2) ∧ ∃ x_3 : Int, some (I64 i) = some (I64 x_3) ∧ 4 ≤ 4 ∧ 1 ≠ 0 ∧ true = true ∧ True ∧ ((∃ l, Wv Ei16 q l ∧ ∃ l_3, Wv Evl V l_3 ∧ ∃ (l_4 : List Cd), [I64 x, I64 x_1, I64 x_2, I64 x_3] = l_4.flatMap Ec.f ∧ true = true ∧ N (((l, l_3, (), (), (1, 1), wrapF .i64 (i.add 1), ()), l_4, ()), true)) ∨ ∃ l, Wv Ei16 q l ∧ ∃ l, Wv Evl V l ∧ False))) (True ∧ False ∨ True ∧ true = true ∧ R1 (((q, V, (), (), (0, 0), i, ()), [], ()), false) ((), ()) ())) := by kernel_rfl
def uMx : knRZ → Prop := fun (((q, V, (), (), o, i, ()), L, ()), fl) => ∃ k : Nat, i = k ∧ k ≤ V.length ∧ V.length ≤ 60 ∧ q.length ≤ 1000 ∧ (∀ v ∈ V, v.length ≤ 1000) ∧ L = (List.range k).map (fun i => knC q [] [] i (V.getD i [])) ∧ o = (L.length, L.length) ∧ (fl = true → L ≠ [])
def uWg : knRZ → Nat := fun (((q, V, (), (), o, i, ()), L, ()), fl) => V.length - i.toNat
def uSp : knRZ → uH4 → uGj → Prop := fun (((q, V, (), (), o, i, ()), L, ()), fl) (o2, _) (L2, _) => o2 = (L2.length, L2.length) ∧ L2 = knV q V [] [] ∧ L2 ≠ []
def uSo : knRZ → uCf → (Unit) → Prop := fun (((q, V, (), (), o, i, ()), L, ()), fl) _ _ => knV q V [] [] = []
noncomputable def knRC : LoopC := loopC 0 uQx (uEr uSp uSo) uMx
theorem knRStep : stepsOk PP uMe 100 8 73 (loopBody PP 8 3) 0 true uQx (uEr uSp uSo) uMx uWg ⟨_, _, uWf, uWh, fun x y => ((x, y), true)⟩ .leaf (fun u => hasT u [42]) := by
 intro x y hz
 obtain ⟨q, V, _, _, o, i, _⟩ := x
 obtain ⟨L, _⟩ := y
 refine (knRForm q V o i L _ _ _).mpr ?_
 obtain ⟨k, rfl, hk, hl, hq, hv, ho, rfl, hn⟩ := hz
 rw [ifp_lt]
 simp only [natOf_nat]
 split
 ·rename_i h
  have hkl : k < V.length := by simpa using h
  have hstep := uQt hkl ho
  refine ⟨q, Wk.refl _, by show q.length ≤ 1000000; omega, idx_ok hkl, _, _, _, _, _, _, nth_lst hkl, V[k], Wk.refl _, by have := hv _ (List.getElem_mem hkl); show _ ≤ 1000000; omega, uAa q, Wk.refl _, uAa V[k], Wk.refl _, trivial, ⟨⟨_, _, _, _, _, _, nth_lst hkl, rfl⟩, trivial⟩, Nat.le_refl _, ?_⟩
  rw [ifp_lt, if_neg (by omega)]
  have hL : L.length = k := by rw [ho]; simp
  refine ⟨_, rfl, _, rfl, _, rfl, _, rfl, Nat.le_refl _, Or.inl ⟨Nat.lt_succ_self _, (by trivial), (uB9 L).symm, roomy_small (by show L.length + 1 ≤ _; omega) (by decide), trivial, Or.inl ⟨q, Wk.refl _, V, Wk.refl _, L ++ [knC q [] [] k V[k]], ?_, (by trivial), ?_⟩⟩⟩
  ·exact uQv (by omega) L
  rw [wsucc (by omega)]
  exact ⟨⟨k + 1, rfl, hkl, hl, hq, hv, hstep.symm, by simp, fun _ => by simp⟩, by show V.length - (k + 1) < V.length - k; omega, fun _ _ h => h, fun _ _ h => h, trivial⟩
 ·rename_i h
  have hkl : ¬ k < V.length := by simpa using h
  have hkV : k = V.length := by omega
  exact Or.inl ⟨trivial, L, rfl, (by trivial), rfl, by show L = (List.range V.length).map _; rw [← hkV]; exact ho, hn rfl⟩
theorem knRStep0 : stepsOk PP uMe 100 8 73 (loopBody PP 8 3) 0 true uQx (uEr uSp uSo) uMx uWg ⟨_, _, uQw, uQy, uWe⟩ .leaf (fun u => hasT u [42]) := by
 intro x y hz
 obtain ⟨q, V, _, _, _, i, _⟩ := x
 obtain _ := y
 refine (knRForm0 q V i _ _ _).mpr ?_
 obtain ⟨k, rfl, hk, hl, hq, hv, ho, _, _⟩ := hz
 rw [ifp_lt]
 simp only [natOf_nat]
 split
 ·rename_i h
  have hkl : k < V.length := by simpa using h
  have hstep := uQt hkl ho
  refine ⟨q, Wk.refl _, by show q.length ≤ 1000000; omega, idx_ok hkl, _, _, _, _, _, _, nth_lst hkl, V[k], Wk.refl _, by have := hv _ (List.getElem_mem hkl); show _ ≤ 1000000; omega, uAa q, Wk.refl _, uAa V[k], Wk.refl _, trivial, ⟨⟨_, _, _, _, _, _, nth_lst hkl, rfl⟩, trivial⟩, Nat.le_refl _, ?_⟩
  rw [ifp_lt, if_neg (by omega)]
  refine ⟨_, rfl, _, rfl, _, rfl, _, rfl, Nat.le_refl _, by decide, (by trivial), trivial, Or.inl ⟨q, Wk.refl _, V, Wk.refl _, [knC q [] [] k V[k]], ?_, (by trivial), ?_⟩⟩
  ·exact uQv (by omega) []
  rw [wsucc (by omega)]
  exact ⟨⟨k + 1, rfl, hkl, hl, hq, hv, hstep.symm, rfl, fun _ => by simp⟩, by show V.length - (k + 1) < V.length - k; omega, fun _ _ h => h, fun _ _ h => h, trivial⟩
 ·rename_i h
  have hkl : ¬ k < V.length := by simpa using h
  have hkV : k = V.length := by omega
  exact Or.inr ⟨trivial, (by trivial), by show (List.range V.length).map _ = []; rw [← hkV]; exact ho.symm⟩
theorem knROk : LoopOk PP 8 73 (.loop (loopBody PP 8 3)) (knRC) := loop_ok uWg  mixed (KLX_ok (cc_cons rwideCc (cc_cons rdistCc (cc_nil)))) rfl (steps_cons knRStep (steps_cons knRStep0 (steps_nil)))
abbrev uBu := ((List Int) × (List (List Int)) × Unit × Unit × Unit) × (Unit)
noncomputable def uK3 : Tel ((List Int) × (List (List Int)) × Unit × Unit × Unit) := .cons 0 (.lst Ei16) (.cons 1 (.lst Evl) (.cons 2 (.nilS) (.cons 3 (.nilS) (.nil))))
noncomputable def uHg : BTel (Unit) := .nil
noncomputable def uEq (R0 : uBu → uH4 → uGj → Prop) (R1 : uBu → uCf → (Unit) → Prop) : List (Res uBu) := [⟨uB4 × Unit, uGj, .cons 0 (.slq 0 4) (.nil), .cons (.rows Ec 42) (.nil), R0⟩, ⟨Unit × Unit, Unit, .cons 0 (.nilS) (.nil), .nil, R1⟩]
theorem knownRFn (q : List Int) (V : List (List Int)) (R0 : uBu → uH4 → uGj → Prop) (R1 : uBu → uCf → (Unit) → Prop) : (callW PP (runW PP (KLX [] [(8, [(3, knRC)])] [42] [] []) 200) 8 (uK3.cells id (q, V, (), (), ())) (stL true (uHg.obs id ()) .leaf (fun u => hasT u [42])) (fun v st => resAny 0 ((q, V, (), (), ()), ()) v st (uEq R0 R1))) = ( LoopOk PP 8 73 (loopBody PP 8 3).loop knRC ∧ True ∧ True ∧ ((∃ l, Wv Ei16 q l ∧ ∃ l, Wv Evl V l ∧ False) ∨ ∃ l, Wv Ei16 q l ∧ ∃ l_1, Wv Evl V l_1 ∧ true = true ∧ uMx (((l, l_1, (), (), (0, 0), 0, ()), [], ()), false) ∧ (∀ c d, uSp (((l, l_1, (), (), (0, 0), 0, ()), [], ()), false) c d → (∃ l, Sa Ec d.1 l ∧ true = true ∧ R0 ((q, V, (), (), ()), ()) (c.1, ()) (l, ())) ∨ False) ∧ (∀ c d, uSo (((l, l_1, (), (), (0, 0), 0, ()), [], ()), false) c d → False ∨ true = true ∧ R1 ((q, V, (), (), ()), ()) ((), ()) ()) ∧ True)) := by kernel_rfl
def uCv : uBu → Prop := fun ((q, V, (), (), ()), ()) => V.length ≤ 60 ∧ q.length ≤ 1000 ∧ (∀ v ∈ V, v.length ≤ 1000)
def uDx : uBu → uH4 → uGj → Prop := fun ((q, V, (), (), ()), ()) (o2, _) (L2, _) => o2 = (L2.length, L2.length) ∧ L2 = knV q V [] [] ∧ L2 ≠ []
def uDw : uBu → uCf → (Unit) → Prop := fun ((q, V, (), (), ()), ()) _ _ => knV q V [] [] = []
noncomputable def uHf : CallC := callC 0 uK3 uHg uCv (uEq uDx uDw)
theorem knownRStep (z : uBu) (hp : uCv z) : callW PP (runW PP (KLX [] [(8, [(3, knRC)])] [42] [] []) 200) 8 (uK3.cells id z.1) (stL true (uHg.obs id z.2) .leaf (fun u => hasT u [42])) (fun v st => resAny 0 z v st (uEq uDx uDw)) := by
 obtain ⟨⟨q, V, _, _, _⟩, _⟩ := z
 refine (knownRFn q V _ _).mpr ?_
 obtain ⟨hl, hq, hv⟩ := hp
 refine ⟨knROk, trivial, trivial, Or.inr ⟨q, Wk.refl _, V, Wk.refl _, (by trivial), ⟨0, rfl, Nat.zero_le _, hl, hq, hv, rfl, rfl, fun h9 => by cases h9⟩, fun c d hr => ?_, fun c d hr => ?_, trivial⟩⟩
 ·obtain ⟨o2, _⟩ := c
  obtain ⟨L2, _⟩ := d
  exact Or.inl ⟨L2, rfl, (by trivial), hr⟩
 ·exact Or.inr ⟨(by trivial), hr⟩
theorem knownRCc : CcOk PP 8 uHf := call_ok mixed (KLX_ok (cc_nil)) rfl knownRStep
theorem set_take {α : Type} {l : List α} {j : Nat} (h : j < l.length) {y : α} : (l.set j y).take (j + 1) = l.take j ++ [y] := by
 rw [List.set_eq_take_append_cons_drop, if_pos h, show j + 1 = (l.take j).length + 1 by rw [List.length_take]; omega, List.take_length_add_append]; rfl
theorem set_drop {α : Type} {l : List α} {j : Nat} (h : j < l.length) {y : α} : (l.set j y).drop (j + 1) = l.drop (j + 1) := by
 rw [List.set_eq_take_append_cons_drop, if_pos h, show j + 1 = (l.take j).length + 1 by rw [List.length_take]; omega, List.drop_length_add_append]; rfl
theorem uC7 {l : List Cd} {j : Nat} (h : j < l.length) : setAt ((Nat.add 0 (Nat.mul j 4)).add 2) [AV.int .i64 140737488355328] (l.flatMap Ec.f) = (l.set j (wdC l[j])).flatMap Ec.f := by
 have hl : ((l.take j).flatMap Ec.f).length = j * 4 := by rw [uB9, List.length_take]; omega
 have e : l.flatMap Ec.f = (l.take j).flatMap Ec.f ++ ([AV.int .i64 l[j].1, AV.int .i64 l[j].2.1, AV.int .i64 l[j].2.2.1, AV.int .i64 l[j].2.2.2.1] ++ (l.drop (j + 1)).flatMap Ec.f) := by
  conv => lhs; rw [← List.take_append_drop j l, List.drop_eq_getElem_cons h, List.flatMap_append, List.flatMap_cons]
  rfl
 rw [setAt, e, show (Nat.add 0 (Nat.mul j 4)).add 2 = ((l.take j).flatMap Ec.f).length + 2 by rw [hl]; show 0 + j * 4 + 2 = _; omega, List.take_length_add_append,
  show ((l.take j).flatMap Ec.f).length + 2 + [AV.int .i64 140737488355328].length = ((l.take j).flatMap Ec.f).length + 3 from rfl, List.drop_length_add_append, List.set_eq_take_append_cons_drop, if_pos h, List.flatMap_append, List.flatMap_cons]
 simp [wdC, Enc.pair, Enc.int, Enc.unit]
theorem uC8 {l : List Cd} {j : Nat} (h : j < l.length) : ((Nat.add 0 (Nat.mul j 4)).add 2).add 1 ≤ (l.flatMap Ec.f).length := by
 rw [uB9]; show 0 + j * 4 + 2 + 1 ≤ _; omega
def nwL (l : List Cd) (j : Nat) : List Cd := l.take j ++ (l.drop j).map wdC
def nwW (k : Int) (p : List Near) (l : List Cd) (j : Nat) : Int := ((l.drop j).filter fun c => uBb k p c.2.1).length
theorem uA8 {l : List Cd} {j : Nat} (h : j < l.length) : nwL (l.set j (wdC l[j])) (j + 1) = nwL l j := by
 rw [nwL, nwL, set_take h, set_drop h, List.drop_eq_getElem_cons h, List.map_cons, List.append_assoc]; rfl
theorem uDc {k : Int} {p : List Near} {l : List Cd} {j : Nat} (h : j < l.length) (hw : uBb k p l[j].2.1 = true) : nwW k p (l.set j (wdC l[j])) (j + 1) + 1 = nwW k p l j := by
 rw [nwW, nwW, set_drop h, List.drop_eq_getElem_cons h, List.filter_cons_of_pos (p := fun c : Cd => uBb k p c.2.1) hw]; simp
theorem uSl {k : Int} {p : List Near} {l : List Cd} {j : Nat} (h : j < l.length) (hw : uBb k p l[j].2.1 = false) : nwW k p (l.set j (wdC l[j])) (j + 1) = nwW k p l j := by
 rw [nwW, nwW, set_drop h, List.drop_eq_getElem_cons h, List.filter_cons_of_neg (p := fun c : Cd => uBb k p c.2.1) (by simp [hw])]
abbrev nwAZ := ((List (List Int)) × (List Int) × Int × Int × Unit) × (Unit)
noncomputable def uV1 : Tel ((List (List Int)) × (List Int) × Int × Int × Unit) := .cons 0 (.lst Evl) (.cons 1 (.lst Ei16) (.ji 2 (.ji 7 (.nil))))
noncomputable def uV5 : BTel (Unit) := .nil
noncomputable def uV4 : List (LForm nwAZ) := [⟨_, _, uV1, uV5, fun x y => (x, y)⟩]
abbrev uSg := (List (List Int)) × (List Int) × Int × Unit
noncomputable def uKp (R0 : nwAZ → uSg → (Unit) → Prop) (R1 : nwAZ → uCf → (Unit) → Prop) : List (Alt nwAZ) := [⟨.exit 0, uSg, Unit, .cons 0 (.lst Evl) (.cons 1 (.lst Ei16) (.ji 2 (.nil))), .nil, R0⟩, ⟨.ret, Unit × Unit, Unit, .cons 6 (.con (.bool true) rfl) (.nil), .nil, R1⟩]
theorem nwAForm (V : List (List Int)) (q : List Int) (k i : Int) (N : nwAZ → Prop) (R0 : nwAZ → uSg → (Unit) → Prop) (R1 : nwAZ → uCf → (Unit) → Prop) : ((runW PP (KL [] []) 100).code none 3 144 (loopBody PP 3 6) (mkT (uV1.av id (V, q, k, i, ()))) [] (stL true (uV5.obs id ())) (postL 0 uV4 (uKp R0 R1) ((V, q, k, i, ()), ()) N)) = ( ifp (!leInt (Int.ofNat V.length) i) (idxOk i V.length ∧ ∃ l' n c x w e, nth ((natOf i).mul 1) (V.flatMap Evl.f) = some (AV.vs l' n c x w e) ∧ ifp (!eqInt (Int.ofNat n) (Int.ofNat q.length)) (True ∧ AV.bool true = AV.bool true ∧ true = true ∧ R1 ((V, q, k, i, ()), ()) ((), ()) ()) (True ∧ ∃ l, Wv Evl V l ∧ ∃ l_1, Wv Ei16 q l_1 ∧ true = true ∧ N ((l, l_1, k, wrapF .i64 (i.add 1), ()), ()))) (True ∧ ∃ l, Wv Evl V l ∧ ∃ l_1, Wv Ei16 q l_1 ∧ true = true ∧ R0 ((V, q, k, i, ()), ()) (l, l_1, k, ()) ())) := by kernel_rfl
def uP6 : nwAZ → Prop := fun ((V, q, k, i, ()), ()) => ∃ n : Nat, i = n ∧ n ≤ V.length ∧ V.length ≤ 60 ∧ ∀ j (h : j < V.length), j < n → V[j].length = q.length
def uXt : nwAZ → Nat := fun ((V, q, k, i, ()), ()) => V.length - i.toNat
def uV3 : nwAZ → uSg → (Unit) → Prop := fun ((V, q, k, i, ()), ()) (V2, q2, k2, _) _ => V2 = V ∧ q2 = q ∧ k2 = k ∧ ∀ v ∈ V, v.length = q.length
def uV2 : nwAZ → uCf → (Unit) → Prop := fun ((V, q, k, i, ()), ()) _ _ => True
noncomputable def nwAC : LoopC := loopC 0 uV4 (uKp uV3 uV2) uP6
theorem nwAStep : stepsOk PP (KL [] []) 100 3 144 (loopBody PP 3 6) 0 true uV4 (uKp uV3 uV2) uP6 uXt ⟨_, _, uV1, uV5, fun x y => (x, y)⟩ := by
 intro x y hz
 obtain ⟨V, q, k, i, _⟩ := x
 obtain _ := y
 refine (nwAForm V q k i _ _ _).mpr ?_
 obtain ⟨m, rfl, hm, hV, hl⟩ := hz
 rw [ifp_lt]
 simp only [natOf_nat]
 split
 ·rename_i h
  have hmV : m < V.length := by simpa using h
  refine ⟨idx_ok hmV, _, _, _, _, _, _, nth_lst hmV, ?_⟩
  rw [ifp_ne]
  split
  ·rename_i he
   have he' : V[m].length = q.length := Int.ofNat.inj he
   refine ⟨trivial, V, Wk.refl _, q, Wk.refl _, (by trivial), ?_⟩
   rw [wsucc (by omega)]
   refine ⟨⟨m + 1, rfl, hmV, hV, fun j hj hjm => ?_⟩, by show V.length - (m + 1) < V.length - m; omega, fun _ _ h => h, fun _ _ h => h, trivial⟩
   rcases Nat.lt_or_ge j m with c | c
   ·exact hl j hj c
   ·obtain rfl : j = m := by omega
    exact he'
  ·exact ⟨trivial, (by trivial), (by trivial), trivial⟩
 ·rename_i h
  have hmV : ¬ m < V.length := by simpa using h
  refine ⟨trivial, V, Wk.refl _, q, Wk.refl _, (by trivial), rfl, rfl, rfl, fun v hv => ?_⟩
  obtain ⟨j, hj, rfl⟩ := List.getElem_of_mem hv
  exact hl j hj (by omega)
theorem nwAOk : LoopOk PP 3 144 (.loop (loopBody PP 3 6)) (nwAC) := loop_ok uXt  mixed (KL_ok (cc_nil)) rfl (steps_cons nwAStep (steps_nil))
abbrev uEe := (List Near) × (List Near) × Unit
abbrev uMd := (List Int) × Int × Unit × uB4 × Unit × Int × Int × Unit
abbrev uO7 := Int × Int × Int × uB4 × uB4 × (List Int) × Unit
abbrev uTf := (List Cd) × uO7 × (List Int) × (List Int) × Unit × uEe × Unit
abbrev nwBZ := uMd × uTf
noncomputable def uVy : Tel uMd := .cons 1 (.lst Ei16) (.ji 2 (.cons 8 (.ptr 1) (.cons 10 (.slq 0 4) (.cons 11 (.ptr 5) (.ji 13 (.ji 14 (.nil)))))))
noncomputable abbrev uFa := Bk.row (.cons 0 (.lst En) (.cons 1 (.lst En) (.nil)))
noncomputable def uV0 : BTel uTf := .cons (.rows Ec 42) (.cons (.row (.ji 0 (.ji 1 (.ji 2 (.cons 3 (.slq 2 1) (.cons 4 (.slq 3 1) (.cons 5 (.own Ei64 4) (.nil)))))))) (.cons (.rows Eu64 82) (.cons (.rows Ei16 26) (.cons (.spare) (.cons uFa (.nil))))))
noncomputable def uP1 : Tel uMd := .cons 1 (.lst Ei16) (.ji 2 (.cons 8 (.ptr 1) (.cons 10 (.slq 0 4) (.cons 11 (.ptr 4) (.ji 13 (.ji 14 (.nil)))))))
abbrev uTe := (List Cd) × (Int × Int × Int × uB4 × uB4 × Unit × Unit) × (List Int) × (List Int) × uEe × Unit
noncomputable def uP5 : BTel uTe := .cons (.rows Ec 42) (.cons (.row (.ji 0 (.ji 1 (.ji 2 (.cons 3 (.slq 2 1) (.cons 4 (.slq 3 1) (.cons 5 (.nilS) (.nil)))))))) (.cons (.rows Eu64 82) (.cons (.rows Ei16 26) (.cons uFa (.nil)))))
noncomputable def uVx : uMd → uTe → nwBZ := fun (q, k, (), l, (), w, i, ()) (L, (d, r, c, t, a, (), ()), T, A, (p, z, ()), ()) => ((q, k, (), l, (), w, i, ()), L, (d, r, c, t, a, [], ()), T, A, (), (p, z, ()), ())
noncomputable def uP4 : List (LForm nwBZ) := [⟨_, _, uVy, uV0, fun x y => (x, y)⟩, ⟨_, _, uP1, uP5, uVx⟩]
abbrev uEz := (List Int) × Int × Unit × uB4 × Unit × Int × Unit
abbrev uO9 := (List Cd) × uO7 × (List Int) × (List Int) × Unit × uEe × Unit
abbrev uO8 := (List Cd) × (Int × Int × Int × uB4 × uB4 × Unit × Unit) × (List Int) × (List Int) × uEe × Unit
noncomputable def uEh (R0 : nwBZ → uEz → uO9 → Prop) (R1 : nwBZ → uEz → uO8 → Prop) : List (Alt nwBZ) := [⟨.exit 2, uEz, uO9, .cons 1 (.lst Ei16) (.ji 2 (.cons 8 (.ptr 1) (.cons 10 (.slq 0 4) (.cons 11 (.ptr 5) (.ji 13 (.nil)))))), .cons (.rows Ec 42) (.cons (.row (.ji 0 (.ji 1 (.ji 2 (.cons 3 (.slq 2 1) (.cons 4 (.slq 3 1) (.cons 5 (.own Ei64 4) (.nil)))))))) (.cons (.rows Eu64 82) (.cons (.rows Ei16 26) (.cons (.spare) (.cons uFa (.nil)))))), R0⟩, ⟨.exit 2, uEz, uO8, .cons 1 (.lst Ei16) (.ji 2 (.cons 8 (.ptr 1) (.cons 10 (.slq 0 4) (.cons 11 (.ptr 4) (.ji 13 (.nil)))))), .cons (.rows Ec 42) (.cons (.row (.ji 0 (.ji 1 (.ji 2 (.cons 3 (.slq 2 1) (.cons 4 (.slq 3 1) (.cons 5 (.nilS) (.nil)))))))) (.cons (.rows Eu64 82) (.cons (.rows Ei16 26) (.cons uFa (.nil))))), R1⟩]
noncomputable abbrev uFb := KLX [] [] [42] [] []
theorem nwBForm (q : List Int) (k : Int) (l : Nat × Nat) (w i : Int) (L : List Cd) (d r c : Int) (t a : Nat × Nat) (x T A : List Int) (p z : List Near) (N : nwBZ → Prop) (R0 : nwBZ → uEz → uO9 → Prop) (R1 : nwBZ → uEz → uO8 → Prop) : ((runW PP uFb 100).code none 3 144 (loopBody PP 3 20) (mkT (uVy.av id (q, k, (), l, (), w, i, ()))) [] (stL true (uV0.obs id (L, (d, r, c, t, a, x, ()), T, A, (), (p, z, ()), ()))) (postL 1 uP4 (uEh R0 R1) ((q, k, (), l, (), w, i, ()), L, (d, r, c, t, a, x, ()), T, A, (), (p, z, ()), ()) N)) = ( ifp (!leInt (Int.ofNat l.1) i) (ifp (!leInt k (Int.ofNat p.length)) (True ∧ True ∧ idxOk i l.1 ∧ ((Nat.add 0 ((natOf i).mul 4)).add 2).add 1 ≤ (L.flatMap Ec.f).length ∧ True ∧ ((∃ l_1, Wv Ei16 q l_1 ∧ ∃ (l_2 : List Cd), setAt ((Nat.add 0 ((natOf i).mul 4)).add 2) [I64 140737488355328] (L.flatMap Ec.f) = l_2.flatMap Ec.f ∧ ∃ l_3, Ow Ei64 x l_3 1 ∧ ∃ l_4, Sa Eu64 T l_4 ∧ ∃ l_5, Sa Ei16 A l_5 ∧ ∃ l_6, Wv En p l_6 ∧ ∃ l_7, Wv En z l_7 ∧ true = true ∧ N ((l_1, k, (), l, (), wrapF .i64 (w.add 1), wrapF .i64 (i.add 1), ()), l_2, (d, r, c, t, a, l_3, ()), l_4, l_5, (), (l_6, l_7, ()), ())) ∨ ∃ l, Wv Ei16 q l ∧ ∃ (l : List Cd), setAt ((Nat.add 0 ((natOf i).mul 4)).add 2) [I64 140737488355328] (L.flatMap Ec.f) = l.flatMap Ec.f ∧ False)) (idxOk i l.1 ∧ ∃ x_1 : Int, nth ((Nat.add 0 ((natOf i).mul 4)).add 1) (L.flatMap Ec.f) = some (I64 x_1) ∧ idxOk (wrapF .i64 (k.sub 1)) p.length ∧ ∃ x_2, Nt En (natOf (wrapF .i64 (k.sub 1))) 2 0 p x_2 ∧ ifp (leInt x_1 x_2) (T5 <| idxOk i l.1 ∧ ((Nat.add 0 ((natOf i).mul 4)).add 2).add 1 ≤ (L.flatMap Ec.f).length ∧ True ∧ ((∃ l_1, Wv Ei16 q l_1 ∧ ∃ (l_2 : List Cd), setAt ((Nat.add 0 ((natOf i).mul 4)).add 2) [I64 140737488355328] (L.flatMap Ec.f) = l_2.flatMap Ec.f ∧ ∃ l_3, Ow Ei64 x l_3 1 ∧ ∃ l_4, Sa Eu64 T l_4 ∧ ∃ l_5, Sa Ei16 A l_5 ∧ ∃ l_6, Wv En p l_6 ∧ ∃ l_7, Wv En z l_7 ∧ true = true ∧ N ((l_1, k, (), l, (), wrapF .i64 (w.add 1), wrapF .i64 (i.add 1), ()), l_2, (d, r, c, t, a, l_3, ()), l_4, l_5, (), (l_6, l_7, ()), ())) ∨ ∃ l, Wv Ei16 q l ∧ ∃ (l : List Cd), setAt ((Nat.add 0 ((natOf i).mul 4)).add 2) [I64 140737488355328] (L.flatMap Ec.f) = l.flatMap Ec.f ∧ False)) (T5 <| idxOk i l.1 ∧ ((Nat.add 0 ((natOf i).mul 4)).add 2).add 1 ≤ (L.flatMap Ec.f).length ∧ True ∧ ((∃ l_1, Wv Ei16 q l_1 ∧ ∃ (l_2 : List Cd), setAt ((Nat.add 0 ((natOf i).mul 4)).add 2) [I64 140737488355328] (L.flatMap Ec.f) = l_2.flatMap Ec.f ∧ ∃ l_3, Ow Ei64 x l_3 1 ∧ ∃ l_4, Sa Eu64 T l_4 ∧ ∃ l_5, Sa Ei16 A l_5 ∧ ∃ l_6, Wv En p l_6 ∧ ∃ l_7, Wv En z l_7 ∧ true = true ∧ N ((l_1, k, (), l, (), w, wrapF .i64 (i.add 1), ()), l_2, (d, r, c, t, a, l_3, ()), l_4, l_5, (), (l_6, l_7, ()), ())) ∨ ∃ l, Wv Ei16 q l ∧ ∃ (l : List Cd), setAt ((Nat.add 0 ((natOf i).mul 4)).add 2) [I64 140737488355328] (L.flatMap Ec.f) = l.flatMap Ec.f ∧ False)))) ((True ∧ ∃ l_1, Wv Ei16 q l_1 ∧ ∃ l_2, Sa Ec L l_2 ∧ ∃ l_3, Ow Ei64 x l_3 1 ∧ ∃ l_4, Sa Eu64 T l_4 ∧ ∃ l_5, Sa Ei16 A l_5 ∧ ∃ l_6, Wv En p l_6 ∧ ∃ l_7, Wv En z l_7 ∧ true = true ∧ R0 ((q, k, (), l, (), w, i, ()), L, (d, r, c, t, a, x, ()), T, A, (), (p, z, ()), ()) (l_1, k, (), l, (), w, ()) (l_2, (d, r, c, t, a, l_3, ()), l_4, l_5, (), (l_6, l_7, ()), ())) ∨ True ∧ ∃ l, Wv Ei16 q l ∧ ∃ l, Sa Ec L l ∧ False)) := by kernel_rfl
theorem nwBForm0 (q : List Int) (k : Int) (l : Nat × Nat) (w i : Int) (L : List Cd) (d r c : Int) (t a : Nat × Nat) (T A : List Int) (p z : List Near) (N : nwBZ → Prop) (R0 : nwBZ → uEz → uO9 → Prop) (R1 : nwBZ → uEz → uO8 → Prop) : ((runW PP uFb 100).code none 3 144 (loopBody PP 3 20) (mkT (uP1.av id (q, k, (), l, (), w, i, ()))) [] (stL true (uP5.obs id (L, (d, r, c, t, a, (), ()), T, A, (p, z, ()), ()))) (postL 1 uP4 (uEh R0 R1) (uVx (q, k, (), l, (), w, i, ()) (L, (d, r, c, t, a, (), ()), T, A, (p, z, ()), ())) N)) = ( ifp (!leInt (Int.ofNat l.1) i) (ifp (!leInt k (Int.ofNat p.length)) (True ∧ True ∧ idxOk i l.1 ∧ ((Nat.add 0 ((natOf i).mul 4)).add 2).add 1 ≤ (L.flatMap Ec.f).length ∧ True ∧ ((∃ l, Wv Ei16 q l ∧ ∃ (l : List Cd), setAt ((Nat.add 0 ((natOf i).mul 4)).add 2) [I64 140737488355328] (L.flatMap Ec.f) = l.flatMap Ec.f ∧ False) ∨ ∃ l_1, Wv Ei16 q l_1 ∧ ∃ (l_2 : List Cd), setAt ((Nat.add 0 ((natOf i).mul 4)).add 2) [I64 140737488355328] (L.flatMap Ec.f) = l_2.flatMap Ec.f ∧ ∃ l_3, Sa Eu64 T l_3 ∧ ∃ l_4, Sa Ei16 A l_4 ∧ ∃ l_5, Wv En p l_5 ∧ ∃ l_6, Wv En z l_6 ∧ true = true ∧ N ((l_1, k, (), l, (), wrapF .i64 (w.add 1), wrapF .i64 (i.add 1), ()), l_2, (d, r, c, t, a, [], ()), l_3, l_4, (), (l_5, l_6, ()), ()))) (idxOk i l.1 ∧ ∃ x : Int, nth ((Nat.add 0 ((natOf i).mul 4)).add 1) (L.flatMap Ec.f) = some (I64 x) ∧ idxOk (wrapF .i64 (k.sub 1)) p.length ∧ ∃ x_1, Nt En (natOf (wrapF .i64 (k.sub 1))) 2 0 p x_1 ∧ ifp (leInt x x_1) (T5 <| idxOk i l.1 ∧ ((Nat.add 0 ((natOf i).mul 4)).add 2).add 1 ≤ (L.flatMap Ec.f).length ∧ True ∧ ((∃ l, Wv Ei16 q l ∧ ∃ (l : List Cd), setAt ((Nat.add 0 ((natOf i).mul 4)).add 2) [I64 140737488355328] (L.flatMap Ec.f) = l.flatMap Ec.f ∧ False) ∨ ∃ l_1, Wv Ei16 q l_1 ∧ ∃ (l_2 : List Cd), setAt ((Nat.add 0 ((natOf i).mul 4)).add 2) [I64 140737488355328] (L.flatMap Ec.f) = l_2.flatMap Ec.f ∧ ∃ l_3, Sa Eu64 T l_3 ∧ ∃ l_4, Sa Ei16 A l_4 ∧ ∃ l_5, Wv En p l_5 ∧ ∃ l_6, Wv En z l_6 ∧ true = true ∧ N ((l_1, k, (), l, (), wrapF .i64 (w.add 1), wrapF .i64 (i.add 1), ()), l_2, (d, r, c, t, a, [], ()), l_3, l_4, (), (l_5, l_6, ()), ()))) (T5 <| idxOk i l.1 ∧ ((Nat.add 0 ((natOf i).mul 4)).add 2).add 1 ≤ (L.flatMap Ec.f).length ∧ True ∧ ((∃ l, Wv Ei16 q l ∧ ∃ (l : List Cd), setAt ((Nat.add 0 ((natOf i).mul 4)).add 2) [I64 140737488355328] (L.flatMap Ec.f) = l.flatMap Ec.f ∧ False) ∨ ∃ l_1, Wv Ei16 q l_1 ∧ ∃ (l_2 : List Cd), setAt ((Nat.add 0 ((natOf i).mul 4)).add 2) [I64 140737488355328] (L.flatMap Ec.f) = l_2.flatMap Ec.f ∧ ∃ l_3, Sa Eu64 T l_3 ∧ ∃ l_4, Sa Ei16 A l_4 ∧ ∃ l_5, Wv En p l_5 ∧ ∃ l_6, Wv En z l_6 ∧ true = true ∧ N ((l_1, k, (), l, (), w, wrapF .i64 (i.add 1), ()), l_2, (d, r, c, t, a, [], ()), l_3, l_4, (), (l_5, l_6, ()), ()))))) ((True ∧ ∃ l, Wv Ei16 q l ∧ ∃ l, Sa Ec L l ∧ False) ∨ True ∧ ∃ l_1, Wv Ei16 q l_1 ∧ ∃ l_2, Sa Ec L l_2 ∧ ∃ l_3, Sa Eu64 T l_3 ∧ ∃ l_4, Sa Ei16 A l_4 ∧ ∃ l_5, Wv En p l_5 ∧ ∃ l_6, Wv En z l_6 ∧ true = true ∧ R1 ((q, k, (), l, (), w, i, ()), L, (d, r, c, t, a, [], ()), T, A, (), (p, z, ()), ()) (l_1, k, (), l, (), w, ()) (l_2, (d, r, c, t, a, (), ()), l_3, l_4, (l_5, l_6, ()), ()))) := by kernel_rfl
def uId : nwBZ → Prop := fun ((q, k, (), l, (), w, i, ()), L, (d, r, c, t, a, x, ()), T, A, (), (p, z, ()), ()) => ∃ j : Nat, i = j ∧ j ≤ L.length ∧ L.length ≤ 60 ∧ l = (L.length, L.length) ∧ 1 ≤ k ∧ (p.length : Int) ≤ k ∧ k ≤ 60 ∧ 0 ≤ w ∧ w ≤ j
def uVz : nwBZ → Nat := fun ((q, k, (), l, (), w, i, ()), L, (d, r, c, t, a, x, ()), T, A, (), (p, z, ()), ()) => L.length - i.toNat
def uP3 : nwBZ → uEz → uO9 → Prop := fun ((q, k, (), l, (), w, i, ()), L, (d, r, c, t, a, x, ()), T, A, (), (p, z, ()), ()) (q2, k2, _, l2, _, w2, _) (L2, (d2, r2, c2, t2, a2, x2, _), T2, A2, _, (p2, z2, _), _) => q2 = q ∧ k2 = k ∧ l2 = l ∧ w2 = w + nwW k p L i.toNat ∧ L2 = nwL L i.toNat ∧ d2 = d ∧ r2 = r ∧ c2 = c ∧ t2 = t ∧ a2 = a ∧ T2 = T ∧ A2 = A ∧ p2 = p ∧ z2 = z ∧ x2 = x
def uP2 : nwBZ → uEz → uO8 → Prop := fun ((q, k, (), l, (), w, i, ()), L, (d, r, c, t, a, x, ()), T, A, (), (p, z, ()), ()) (q2, k2, _, l2, _, w2, _) (L2, (d2, r2, c2, t2, a2, _), T2, A2, (p2, z2, _), _) => q2 = q ∧ k2 = k ∧ l2 = l ∧ w2 = w + nwW k p L i.toNat ∧ L2 = nwL L i.toNat ∧ d2 = d ∧ r2 = r ∧ c2 = c ∧ t2 = t ∧ a2 = a ∧ T2 = T ∧ A2 = A ∧ p2 = p ∧ z2 = z
noncomputable def nwBC : LoopC := loopC 1 uP4 (uEh uP3 uP2) uId
theorem nwBStep : stepsOk PP uFb 100 3 144 (loopBody PP 3 20) 1 true uP4 (uEh uP3 uP2) uId uVz ⟨_, _, uVy, uV0, fun x y => (x, y)⟩ := by
 intro x y hz
 obtain ⟨q, k, _, l, _, w, i, _⟩ := x
 obtain ⟨L, ⟨d, r, c, t, a, x, _⟩, T, A, _, ⟨p, z, _⟩, _⟩ := y
 refine (nwBForm q k l w i L d r c t a x T A p z _ _ _).mpr ?_
 obtain ⟨j, rfl, hj0, hl60, rfl, hk1, hpl, hk2, hw0, hw1⟩ := hz
 rw [ifp_lt]
 simp only [natOf_nat]
 split
 ·rename_i h
  have hj : j < L.length := by simpa using h
  rw [ifp_lt]
  split
  ·rename_i h1
   have hw : uBb k p L[j].2.1 = true := decide_eq_true (Or.inl h1)
   refine ⟨trivial, trivial, idx_ok hj, uC8 hj, trivial, ?_⟩
   refine Or.inl ⟨q, Wk.refl _, L.set j (wdC L[j]), uC7 hj, x, ⟨WkL.refl _, (by trivial), (by trivial)⟩, T, rfl, A, rfl, p, Wk.refl _, z, Wk.refl _, (by trivial), ?_⟩
   rw [show wrapF .i64 (Int.add w 1) = w + 1 from wadd (by omega) (by omega)]
   rw [wsucc (by omega)]
   refine ⟨⟨j + 1, rfl, by show j + 1 ≤ (L.set j (wdC L[j])).length; simp; omega, by simpa using hl60, by simp, hk1, hpl, hk2, by omega, by omega⟩, by show (L.set j (wdC L[j])).length - (j + 1) < L.length - j; simp; omega, fun cc dd hh => ?_, fun cc dd hh => ?_, trivial⟩
   ·obtain ⟨q2, k2, _, l2, _, w2, _⟩ := cc
    obtain ⟨L2, ⟨d2, r2, c2, t2, a2, x2, _⟩, T2, A2, _, ⟨p2, z2, _⟩, _⟩ := dd
    obtain ⟨g1, g2, g3, gw, gL, g⟩ := hh
    exact ⟨g1, g2, g3, gw.trans (by show (w + 1) + nwW k p (L.set j (wdC L[j])) (j + 1) = w + nwW k p L j; have := uDc hj hw; simp only [natOf_nat, Int.toNat_natCast] at *; omega), gL.trans (uA8 hj), g⟩
   ·obtain ⟨q2, k2, _, l2, _, w2, _⟩ := cc
    obtain ⟨L2, ⟨d2, r2, c2, t2, a2, _⟩, T2, A2, ⟨p2, z2, _⟩, _⟩ := dd
    obtain ⟨g1, g2, g3, gw, gL, g⟩ := hh
    exact ⟨g1, g2, g3, gw.trans (by show (w + 1) + nwW k p (L.set j (wdC L[j])) (j + 1) = w + nwW k p L j; have := uDc hj hw; simp only [natOf_nat, Int.toNat_natCast] at *; omega), gL.trans (uA8 hj), g⟩
  ·rename_i h1
   have h1' : (p.length : Int) = k := by simp only [Int.ofNat_eq_natCast] at h1; omega
   have hkp : k.toNat - 1 < p.length := by omega
   have ek : wrapF .i64 (Int.sub k 1) = ((k.toNat - 1 : Nat) : Int) := by rw [wsub (by omega) (by omega)]; omega
   have hg : p.getD (k.toNat - 1) (0, 0, ()) = p[k.toNat - 1] := by rw [List.getD_eq_getElem?_getD, List.getElem?_eq_getElem hkp]; rfl
   simp only [ek, natOf_nat]
   refine ⟨idx_ok hj, _, uAh hj, idx_ok hkp, _, uBf hkp, ?_⟩
   rw [ifp_le]
   split
   ·rename_i h2
    have hw : uBb k p L[j].2.1 = true := decide_eq_true (Or.inr (by rw [hg]; exact h2))
    refine ⟨trivial, trivial, trivial, trivial, trivial, idx_ok hj, uC8 hj, trivial, ?_⟩
    refine Or.inl ⟨q, Wk.refl _, L.set j (wdC L[j]), uC7 hj, x, ⟨WkL.refl _, (by trivial), (by trivial)⟩, T, rfl, A, rfl, p, Wk.refl _, z, Wk.refl _, (by trivial), ?_⟩
    rw [show wrapF .i64 (Int.add w 1) = w + 1 from wadd (by omega) (by omega)]
    rw [wsucc (by omega)]
    refine ⟨⟨j + 1, rfl, by show j + 1 ≤ (L.set j (wdC L[j])).length; simp; omega, by simpa using hl60, by simp, hk1, hpl, hk2, by omega, by omega⟩, by show (L.set j (wdC L[j])).length - (j + 1) < L.length - j; simp; omega, fun cc dd hh => ?_, fun cc dd hh => ?_, trivial⟩
    ·obtain ⟨q2, k2, _, l2, _, w2, _⟩ := cc
     obtain ⟨L2, ⟨d2, r2, c2, t2, a2, x2, _⟩, T2, A2, _, ⟨p2, z2, _⟩, _⟩ := dd
     obtain ⟨g1, g2, g3, gw, gL, g⟩ := hh
     exact ⟨g1, g2, g3, gw.trans (by show (w + 1) + nwW k p (L.set j (wdC L[j])) (j + 1) = w + nwW k p L j; have := uDc hj hw; simp only [natOf_nat, Int.toNat_natCast] at *; omega), gL.trans (uA8 hj), g⟩
    ·obtain ⟨q2, k2, _, l2, _, w2, _⟩ := cc
     obtain ⟨L2, ⟨d2, r2, c2, t2, a2, _⟩, T2, A2, ⟨p2, z2, _⟩, _⟩ := dd
     obtain ⟨g1, g2, g3, gw, gL, g⟩ := hh
     exact ⟨g1, g2, g3, gw.trans (by show (w + 1) + nwW k p (L.set j (wdC L[j])) (j + 1) = w + nwW k p L j; have := uDc hj hw; simp only [natOf_nat, Int.toNat_natCast] at *; omega), gL.trans (uA8 hj), g⟩
   ·rename_i h2
    have hw : uBb k p L[j].2.1 = false := decide_eq_false (by rw [hg]; omega)
    refine ⟨trivial, trivial, trivial, trivial, trivial, idx_ok hj, uC8 hj, trivial, ?_⟩
    refine Or.inl ⟨q, Wk.refl _, L.set j (wdC L[j]), uC7 hj, x, ⟨WkL.refl _, (by trivial), (by trivial)⟩, T, rfl, A, rfl, p, Wk.refl _, z, Wk.refl _, (by trivial), ?_⟩
    rw [wsucc (by omega)]
    refine ⟨⟨j + 1, rfl, by show j + 1 ≤ (L.set j (wdC L[j])).length; simp; omega, by simpa using hl60, by simp, hk1, hpl, hk2, by omega, by omega⟩, by show (L.set j (wdC L[j])).length - (j + 1) < L.length - j; simp; omega, fun cc dd hh => ?_, fun cc dd hh => ?_, trivial⟩
    ·obtain ⟨q2, k2, _, l2, _, w2, _⟩ := cc
     obtain ⟨L2, ⟨d2, r2, c2, t2, a2, x2, _⟩, T2, A2, _, ⟨p2, z2, _⟩, _⟩ := dd
     obtain ⟨g1, g2, g3, gw, gL, g⟩ := hh
     exact ⟨g1, g2, g3, gw.trans (by show w + nwW k p (L.set j (wdC L[j])) (j + 1) = w + nwW k p L j; have := uSl hj hw; simp only [natOf_nat, Int.toNat_natCast] at *; omega), gL.trans (uA8 hj), g⟩
    ·obtain ⟨q2, k2, _, l2, _, w2, _⟩ := cc
     obtain ⟨L2, ⟨d2, r2, c2, t2, a2, _⟩, T2, A2, ⟨p2, z2, _⟩, _⟩ := dd
     obtain ⟨g1, g2, g3, gw, gL, g⟩ := hh
     exact ⟨g1, g2, g3, gw.trans (by show w + nwW k p (L.set j (wdC L[j])) (j + 1) = w + nwW k p L j; have := uSl hj hw; simp only [natOf_nat, Int.toNat_natCast] at *; omega), gL.trans (uA8 hj), g⟩
 ·rename_i h
  have hj : ¬ j < L.length := by simpa using h
  have e1 : nwW k p L j = 0 := by rw [nwW, List.drop_of_length_le (by omega)]; rfl
  have e2 : nwL L j = L := by rw [nwL, List.drop_of_length_le (by omega), List.take_of_length_le (by omega)]; simp
  exact Or.inl ⟨trivial, q, Wk.refl _, L, rfl, x, ⟨WkL.refl _, (by trivial), (by trivial)⟩, T, rfl, A, rfl, p, Wk.refl _, z, Wk.refl _, (by trivial), rfl, rfl, rfl, by show w = w + nwW k p L j; omega, e2.symm, rfl, rfl, rfl, rfl, rfl, rfl, rfl, rfl, rfl, rfl⟩
theorem nwBStep0 : stepsOk PP uFb 100 3 144 (loopBody PP 3 20) 1 true uP4 (uEh uP3 uP2) uId uVz ⟨_, _, uP1, uP5, uVx⟩ := by
 intro x y hz
 obtain ⟨q, k, _, l, _, w, i, _⟩ := x
 obtain ⟨L, ⟨d, r, c, t, a, _, _⟩, T, A, ⟨p, z, _⟩, _⟩ := y
 refine (nwBForm0 q k l w i L d r c t a T A p z _ _ _).mpr ?_
 obtain ⟨j, rfl, hj0, hl60, rfl, hk1, hpl, hk2, hw0, hw1⟩ := hz
 rw [ifp_lt]
 simp only [natOf_nat]
 split
 ·rename_i h
  have hj : j < L.length := by simpa using h
  rw [ifp_lt]
  split
  ·rename_i h1
   have hw : uBb k p L[j].2.1 = true := decide_eq_true (Or.inl h1)
   refine ⟨trivial, trivial, idx_ok hj, uC8 hj, trivial, ?_⟩
   refine Or.inr ⟨q, Wk.refl _, L.set j (wdC L[j]), uC7 hj, T, rfl, A, rfl, p, Wk.refl _, z, Wk.refl _, (by trivial), ?_⟩
   rw [show wrapF .i64 (Int.add w 1) = w + 1 from wadd (by omega) (by omega)]
   rw [wsucc (by omega)]
   refine ⟨⟨j + 1, rfl, by show j + 1 ≤ (L.set j (wdC L[j])).length; simp; omega, by simpa using hl60, by simp, hk1, hpl, hk2, by omega, by omega⟩, by show (L.set j (wdC L[j])).length - (j + 1) < L.length - j; simp; omega, fun cc dd hh => ?_, fun cc dd hh => ?_, trivial⟩
   ·obtain ⟨q2, k2, _, l2, _, w2, _⟩ := cc
    obtain ⟨L2, ⟨d2, r2, c2, t2, a2, x2, _⟩, T2, A2, _, ⟨p2, z2, _⟩, _⟩ := dd
    obtain ⟨g1, g2, g3, gw, gL, g⟩ := hh
    exact ⟨g1, g2, g3, gw.trans (by show (w + 1) + nwW k p (L.set j (wdC L[j])) (j + 1) = w + nwW k p L j; have := uDc hj hw; simp only [natOf_nat, Int.toNat_natCast] at *; omega), gL.trans (uA8 hj), g⟩
   ·obtain ⟨q2, k2, _, l2, _, w2, _⟩ := cc
    obtain ⟨L2, ⟨d2, r2, c2, t2, a2, _⟩, T2, A2, ⟨p2, z2, _⟩, _⟩ := dd
    obtain ⟨g1, g2, g3, gw, gL, g⟩ := hh
    exact ⟨g1, g2, g3, gw.trans (by show (w + 1) + nwW k p (L.set j (wdC L[j])) (j + 1) = w + nwW k p L j; have := uDc hj hw; simp only [natOf_nat, Int.toNat_natCast] at *; omega), gL.trans (uA8 hj), g⟩
  ·rename_i h1
   have h1' : (p.length : Int) = k := by simp only [Int.ofNat_eq_natCast] at h1; omega
   have hkp : k.toNat - 1 < p.length := by omega
   have ek : wrapF .i64 (Int.sub k 1) = ((k.toNat - 1 : Nat) : Int) := by rw [wsub (by omega) (by omega)]; omega
   have hg : p.getD (k.toNat - 1) (0, 0, ()) = p[k.toNat - 1] := by rw [List.getD_eq_getElem?_getD, List.getElem?_eq_getElem hkp]; rfl
   simp only [ek, natOf_nat]
   refine ⟨idx_ok hj, _, uAh hj, idx_ok hkp, _, uBf hkp, ?_⟩
   rw [ifp_le]
   split
   ·rename_i h2
    have hw : uBb k p L[j].2.1 = true := decide_eq_true (Or.inr (by rw [hg]; exact h2))
    refine ⟨trivial, trivial, trivial, trivial, trivial, idx_ok hj, uC8 hj, trivial, ?_⟩
    refine Or.inr ⟨q, Wk.refl _, L.set j (wdC L[j]), uC7 hj, T, rfl, A, rfl, p, Wk.refl _, z, Wk.refl _, (by trivial), ?_⟩
    rw [show wrapF .i64 (Int.add w 1) = w + 1 from wadd (by omega) (by omega)]
    rw [wsucc (by omega)]
    refine ⟨⟨j + 1, rfl, by show j + 1 ≤ (L.set j (wdC L[j])).length; simp; omega, by simpa using hl60, by simp, hk1, hpl, hk2, by omega, by omega⟩, by show (L.set j (wdC L[j])).length - (j + 1) < L.length - j; simp; omega, fun cc dd hh => ?_, fun cc dd hh => ?_, trivial⟩
    ·obtain ⟨q2, k2, _, l2, _, w2, _⟩ := cc
     obtain ⟨L2, ⟨d2, r2, c2, t2, a2, x2, _⟩, T2, A2, _, ⟨p2, z2, _⟩, _⟩ := dd
     obtain ⟨g1, g2, g3, gw, gL, g⟩ := hh
     exact ⟨g1, g2, g3, gw.trans (by show (w + 1) + nwW k p (L.set j (wdC L[j])) (j + 1) = w + nwW k p L j; have := uDc hj hw; simp only [natOf_nat, Int.toNat_natCast] at *; omega), gL.trans (uA8 hj), g⟩
    ·obtain ⟨q2, k2, _, l2, _, w2, _⟩ := cc
     obtain ⟨L2, ⟨d2, r2, c2, t2, a2, _⟩, T2, A2, ⟨p2, z2, _⟩, _⟩ := dd
     obtain ⟨g1, g2, g3, gw, gL, g⟩ := hh
     exact ⟨g1, g2, g3, gw.trans (by show (w + 1) + nwW k p (L.set j (wdC L[j])) (j + 1) = w + nwW k p L j; have := uDc hj hw; simp only [natOf_nat, Int.toNat_natCast] at *; omega), gL.trans (uA8 hj), g⟩
   ·rename_i h2
    have hw : uBb k p L[j].2.1 = false := decide_eq_false (by rw [hg]; omega)
    refine ⟨trivial, trivial, trivial, trivial, trivial, idx_ok hj, uC8 hj, trivial, ?_⟩
    refine Or.inr ⟨q, Wk.refl _, L.set j (wdC L[j]), uC7 hj, T, rfl, A, rfl, p, Wk.refl _, z, Wk.refl _, (by trivial), ?_⟩
    rw [wsucc (by omega)]
    refine ⟨⟨j + 1, rfl, by show j + 1 ≤ (L.set j (wdC L[j])).length; simp; omega, by simpa using hl60, by simp, hk1, hpl, hk2, by omega, by omega⟩, by show (L.set j (wdC L[j])).length - (j + 1) < L.length - j; simp; omega, fun cc dd hh => ?_, fun cc dd hh => ?_, trivial⟩
    ·obtain ⟨q2, k2, _, l2, _, w2, _⟩ := cc
     obtain ⟨L2, ⟨d2, r2, c2, t2, a2, x2, _⟩, T2, A2, _, ⟨p2, z2, _⟩, _⟩ := dd
     obtain ⟨g1, g2, g3, gw, gL, g⟩ := hh
     exact ⟨g1, g2, g3, gw.trans (by show w + nwW k p (L.set j (wdC L[j])) (j + 1) = w + nwW k p L j; have := uSl hj hw; simp only [natOf_nat, Int.toNat_natCast] at *; omega), gL.trans (uA8 hj), g⟩
    ·obtain ⟨q2, k2, _, l2, _, w2, _⟩ := cc
     obtain ⟨L2, ⟨d2, r2, c2, t2, a2, _⟩, T2, A2, ⟨p2, z2, _⟩, _⟩ := dd
     obtain ⟨g1, g2, g3, gw, gL, g⟩ := hh
     exact ⟨g1, g2, g3, gw.trans (by show w + nwW k p (L.set j (wdC L[j])) (j + 1) = w + nwW k p L j; have := uSl hj hw; simp only [natOf_nat, Int.toNat_natCast] at *; omega), gL.trans (uA8 hj), g⟩
 ·rename_i h
  have hj : ¬ j < L.length := by simpa using h
  have e1 : nwW k p L j = 0 := by rw [nwW, List.drop_of_length_le (by omega)]; rfl
  have e2 : nwL L j = L := by rw [nwL, List.drop_of_length_le (by omega), List.take_of_length_le (by omega)]; simp
  exact Or.inr ⟨trivial, q, Wk.refl _, L, rfl, T, rfl, A, rfl, p, Wk.refl _, z, Wk.refl _, (by trivial), rfl, rfl, rfl, by show w = w + nwW k p L j; omega, e2.symm, rfl, rfl, rfl, rfl, rfl, rfl, rfl, rfl, rfl⟩
theorem nwBOk : LoopOk PP 3 144 (.loop (loopBody PP 3 20)) (nwBC) := loop_ok uVz  mixed (KLX_ok (cc_nil)) rfl (steps_cons nwBStep (steps_cons nwBStep0 (steps_nil)))
abbrev uO6 := Int × Int × Int × Unit × Unit × Unit × Unit
abbrev uTb := (List Int) × Int × Unit × Unit × Unit × Int × Int × Unit
abbrev nwZZ := uTb × (uO6 × uEe × Unit)
noncomputable def uVt : Tel uTb := .cons 1 (.lst Ei16) (.ji 2 (.cons 8 (.ptr 0) (.cons 10 (.nilS) (.cons 11 (.ptr 1) (.ji 13 (.ji 14 (.nil)))))))
noncomputable def uVw : BTel (uO6 × uEe × Unit) := .cons (.row (.ji 0 (.ji 1 (.ji 2 (.cons 3 (.nilS) (.cons 4 (.nilS) (.cons 5 (.nilS) (.nil)))))))) (.cons uFa (.nil))
noncomputable def uVv : List (LForm nwZZ) := [⟨_, _, uVt, uVw, fun x y => (x, y)⟩]
abbrev uSf := (List Int) × Int × Unit × Unit × Unit × Int × Unit
abbrev uSe := uO6 × uEe × Unit
noncomputable def uKo (R0 : nwZZ → uSf → uSe → Prop) : List (Alt nwZZ) := [⟨.exit 2, uSf, uSe, .cons 1 (.lst Ei16) (.ji 2 (.cons 8 (.ptr 0) (.cons 10 (.nilS) (.cons 11 (.ptr 1) (.ji 13 (.nil)))))), .cons (.row (.ji 0 (.ji 1 (.ji 2 (.cons 3 (.nilS) (.cons 4 (.nilS) (.cons 5 (.nilS) (.nil)))))))) (.cons uFa (.nil)), R0⟩]
theorem nwZForm (q : List Int) (k w i d r c : Int) (p z : List Near) (N : nwZZ → Prop) (R0 : nwZZ → uSf → uSe → Prop) : ((runW PP uFb 100).code none 3 144 (loopBody PP 3 20) (mkT (uVt.av id (q, k, (), (), (), w, i, ()))) [] (stL true (uVw.obs id ((d, r, c, (), (), (), ()), (p, z, ()), ()))) (postL 0 uVv (uKo R0) ((q, k, (), (), (), w, i, ()), (d, r, c, (), (), (), ()), (p, z, ()), ()) N)) = ( ifp (!leInt 0 i) (ifp (!leInt k (Int.ofNat p.length)) (True ∧ True ∧ False) False) (True ∧ ∃ l, Wv Ei16 q l ∧ ∃ l_1, Wv En p l_1 ∧ ∃ l_2, Wv En z l_2 ∧ true = true ∧ R0 ((q, k, (), (), (), w, i, ()), (d, r, c, (), (), (), ()), (p, z, ()), ()) (l, k, (), (), (), w, ()) ((d, r, c, (), (), (), ()), (l_1, l_2, ()), ()))) := by kernel_rfl
def uP0 : nwZZ → Prop := fun ((q, k, (), (), (), w, i, ()), (d, r, c, (), (), (), ()), (p, z, ()), ()) => i = 0
def uXs : nwZZ → Nat := fun ((q, k, (), (), (), w, i, ()), (d, r, c, (), (), (), ()), (p, z, ()), ()) => 0
def uVu : nwZZ → uSf → uSe → Prop := fun ((q, k, (), (), (), w, i, ()), (d, r, c, (), (), (), ()), (p, z, ()), ()) (q2, k2, _, _, _, w2, _) ((d2, r2, c2, _), (p2, z2, _), _) => q2 = q ∧ k2 = k ∧ w2 = w ∧ d2 = d ∧ r2 = r ∧ c2 = c ∧ p2 = p ∧ z2 = z
noncomputable def nwZC : LoopC := loopC 0 uVv (uKo uVu) uP0
theorem nwZStep : stepsOk PP uFb 100 3 144 (loopBody PP 3 20) 0 true uVv (uKo uVu) uP0 uXs ⟨_, _, uVt, uVw, fun x y => (x, y)⟩ := by
 intro x y hz
 obtain ⟨q, k, _, _, _, w, i, _⟩ := x
 obtain ⟨⟨d, r, c, _, _, _, _⟩, ⟨p, z, _⟩, _⟩ := y
 refine (nwZForm q k w i d r c p z _ _).mpr ?_
 obtain rfl : i = 0 := hz
 rw [ifp_lt, if_neg (by decide)]
 exact ⟨trivial, q, Wk.refl _, p, Wk.refl _, z, Wk.refl _, (by trivial), rfl, rfl, rfl, rfl, rfl, rfl, rfl, rfl⟩
theorem nwZOk : LoopOk PP 3 144 (.loop (loopBody PP 3 20)) (nwZC) := loop_ok uXs  mixed (KLX_ok (cc_nil)) rfl (steps_cons nwZStep (steps_nil))
noncomputable def nwC : LoopC := orL nwBC nwZC
theorem nwOk : LoopOk PP 3 144 (.loop (loopBody PP 3 20)) nwC := orL_ok nwBOk nwZOk
end Go.Proofs.YteehkdejkemnmaaDoor
namespace Go.Proofs.YteehkdejkemnmaaDoor
open Go.Det Go.RowKit
set_option maxRecDepth 100000
noncomputable def noK : CallC := fun _ _ _ => False
theorem noCc (f : FuncId) : CcOk PP f noK := fun _ _ _ h => h.elim
abbrev uEd := Int × Int × Int × Unit × Unit × Unit × Unit
abbrev uO2 := uEd × (Unit × Unit) × ((List Int) × Unit) × (Int × Unit × Unit) × (Unit × Unit × Unit) × (Unit × Unit × Unit) × Unit
abbrev uO1 := Unit × Unit × Unit × Unit × Unit × Unit × Unit × (List Cd) × Int × Int × Unit
abbrev uIo := uO1 × uO2
noncomputable def uRc : Tel uO1 := .cons 2 (.ptr 0) (.cons 8 (.ptr 5) (.cons 11 (.ptr 3) (.cons 13 (.fnb 21 [3]) (.cons 14 (.fnb 22 [3]) (.cons 15 (.fnp 38 [1, 2]) (.cons 16 (.ptr 4) (.cons 50 (.lst Ec) (.ji 51 (.ji 52 (.nil))))))))))
noncomputable abbrev uGd := Bk.row (.ji 0 (.ji 1 (.ji 2 (.cons 3 (.nilS) (.cons 4 (.nilS) (.cons 5 (.nilS) (.nil)))))))
noncomputable abbrev uGc := Bk.row (.cons 0 (.nilS) (.cons 1 (.nilS) (.nil)))
noncomputable def uRf : BTel uO2 := .cons uGd (.cons (.row (.cons 0 (.ptr 0) (.nil))) (.cons (.row (.cons 0 (.lst Ei32) (.nil))) (.cons (.row (.ji 0 (.cons 1 (.nilS) (.nil)))) (.cons uGc (.cons uGc (.nil))))))
noncomputable def uRe : List (LForm uIo) := [⟨_, _, uRc, uRf, fun x y => (x, y)⟩]
abbrev uMa := Unit × Unit × Unit × Unit
abbrev uL9 := uEd × (Int × Unit × Unit) × (Unit × Unit × Unit) × (Unit × Unit × Unit) × Unit
noncomputable def uHl (R0 : uIo → uMa → uL9 → Prop) : List (Alt uIo) := [⟨.exit 0, uMa, uL9, .cons 8 (.ptr 3) (.cons 11 (.ptr 1) (.cons 16 (.ptr 2) (.nil))), .cons uGd (.cons (.row (.ji 0 (.cons 1 (.nilS) (.nil)))) (.cons uGc (.cons uGc (.nil)))), R0⟩]
theorem exZLForm (o : List Cd) (n i d r c : Int) (f : List Int) (k : Int) (N : uIo → Prop) (R0 : uIo → uMa → uL9 → Prop) : ((runW PP (KLX [(21, noK), (22, noK), (38, noK)] [] [44, 82, 26] [] []) 100).code none 9 95 (loopBody PP 9 8) (mkT (uRc.av id ((), (), (), (), (), (), (), o, n, i, ()))) [] (stL true (uRf.obs id ((d, r, c, (), (), (), ()), ((), ()), (f, ()), (k, (), ()), ((), (), ()), ((), (), ()), ()))) (postL 1 uRe (uHl R0) (((), (), (), (), (), (), (), o, n, i, ()), (d, r, c, (), (), (), ()), ((), ()), (f, ()), (k, (), ()), ((), (), ()), ((), (), ()), ()) N)) = ( ifp (!leInt n i) (idxOk i o.length ∧ ∃ x, Nt Ec (natOf i) 4 0 o x ∧ ∃ x, Nt Ec (natOf i) 4 1 o x ∧ ∃ x, Nt Ec (natOf i) 4 2 o x ∧ ∃ x, Nt Ec (natOf i) 4 3 o x ∧ False) (True ∧ true = true ∧ R0 (((), (), (), (), (), (), (), o, n, i, ()), (d, r, c, (), (), (), ()), ((), ()), (f, ()), (k, (), ()), ((), (), ()), ((), (), ()), ()) ((), (), (), ()) ((d, r, c, (), (), (), ()), (k, (), ()), ((), (), ()), ((), (), ()), ()))) := by kernel_rfl
def uK8 : uIo → Prop := fun (((), (), (), (), (), (), (), o, n, i, ()), (d, r, c, (), (), (), ()), ((), ()), (f, ()), (k, (), ()), ((), (), ()), ((), (), ()), ()) => i = 0 ∧ n = 0 ∧ o = []
def uT0 : uIo → Nat := fun (((), (), (), (), (), (), (), o, n, i, ()), (d, r, c, (), (), (), ()), ((), ()), (f, ()), (k, (), ()), ((), (), ()), ((), (), ()), ()) => 0
def uRd : uIo → uMa → uL9 → Prop := fun (((), (), (), (), (), (), (), o, n, i, ()), (d, r, c, (), (), (), ()), ((), ()), (f, ()), (k, (), ()), ((), (), ()), ((), (), ()), ()) _ _ => True
noncomputable def uSr : LoopC := loopC 1 uRe (uHl uRd) uK8
theorem exZLStep : stepsOk PP (KLX [(21, noK), (22, noK), (38, noK)] [] [44, 82, 26] [] []) 100 9 95 (loopBody PP 9 8) 1 true uRe (uHl uRd) uK8 uT0 ⟨_, _, uRc, uRf, fun x y => (x, y)⟩ := by
 intro x y hz
 obtain ⟨_, _, _, _, _, _, _, o, n, i, _⟩ := x
 obtain ⟨⟨d, r, c, _, _, _, _⟩, ⟨_, _⟩, ⟨f, _⟩, ⟨k, _, _⟩, ⟨_, _, _⟩, ⟨_, _, _⟩, _⟩ := y
 refine (exZLForm o n i d r c f k _ _).mpr ?_
 obtain ⟨rfl, rfl, rfl⟩ := hz
 rw [ifp_lt, if_neg (by decide)]
 exact ⟨trivial, rfl, trivial⟩
theorem exZLOk : LoopOk PP 9 95 (.loop (loopBody PP 9 8)) (uSr) := loop_ok uT0  mixed (KLX_ok (cc_cons (noCc 21) (cc_cons (noCc 22) (cc_cons (noCc 38) (cc_nil))))) rfl (steps_cons exZLStep (steps_nil))
abbrev exZZ := ((List Int) × (List Cd) × Unit × Int × Unit) × (uEd × Unit)
noncomputable def exZT : Tel ((List Int) × (List Cd) × Unit × Int × Unit) := .cons 0 (.lst Ei16) (.cons 1 (.lst Ec) (.cons 2 (.ptr 0) (.ji 3 (.nil))))
noncomputable def uWs : BTel (uEd × Unit) := .cons uGd (.nil)
abbrev uO3 := Exa × Int × Unit
abbrev uL8 := uEd × Unit
noncomputable def uRa (R0 : exZZ → uO3 → uL8 → Prop) : List (Res exZZ) := [⟨Exa × Int × Unit, uL8, .cons 0 (.aggW Ex) (.ji 1 (.nil)), .cons uGd (.nil), R0⟩]
abbrev zexZ (q : List Int) (l : List Cd) (k d r c : Int) : exZZ := ((q, l, (), k, ()), (d, r, c, (), (), (), ()), ())
theorem exZFn (q : List Int) (l : List Cd) (k d r c : Int) (R0 : exZZ → uO3 → uL8 → Prop) : (callW PP (runW PP (KLX [(27, uSv), (32, mayK), (20, uSm), (37, uNn), (24, ordK), (26, uLl)] [(9, [(8, uSr)])] [44, 82, 26] [] []) 200) 9 (exZT.cells id (q, l, (), k, ())) (stL true (uWs.obs id ((d, r, c, (), (), (), ()), ()))) (fun v st => resAny 1 (zexZ q l k d r c) v st (uRa R0))) = ( ∃ l_1, Wv Ei16 q l_1 ∧ true = true ∧ uEx ((l_1, Int.ofNat q.length, ()), ()) ∧ (∀ c_1 d_1, uIx ((l_1, Int.ofNat q.length, ()), ()) c_1 d_1 → ifp (!leInt 0 k) (∃ (a : Exa), WkL [AV.nilSlice, AV.nilSlice] (Ex.f a) ∧ true = true ∧ R0 (zexZ q l k d r c) (a, 2, ()) ((d, r, c, (), (), (), ()), ())) (ifp (!leInt k 16777216) (∃ (a : Exa), WkL [AV.nilSlice, AV.nilSlice] (Ex.f a) ∧ true = true ∧ R0 (zexZ q l k d r c) (a, 2, ()) ((d, r, c, (), (), (), ()), ())) (∃ l_2, Wv Ec l l_2 ∧ uIj (l_2, ()) ∧ ifp (l_2.all mayC) (ifp (eqInt k 0) (∃ (a : Exa), WkL [AV.nilSlice, AV.nilSlice] (Ex.f a) ∧ true = true ∧ R0 (zexZ q l k d r c) (a, 0, ()) ((d, r, c, (), (), (), ()), ())) (true = true ∧ uEi ((k, ()), ()) ∧ (∀ c_2 d_2, uIf ((k, ()), ()) c_2 d_2 → ∃ l_3, Wv Ei16 q l_3 ∧ uCh (l_3, ()) ∧ ∃ l_4, Wv Ec l l_4 ∧ uTn (l_4, ()) ∧ LoopOk PP 9 95 (loopBody PP 9 8).loop uSr ∧ True ∧ True ∧ ∃ l_5, Wv Ec (ordC l_4) l_5 ∧ ∃ l_6, Wv Ei32 (uAa l_3) l_6 ∧ true = true ∧ uK8 (((), (), (), (), (), (), (), l_5, Int.ofNat (ordC l_4).length, 0, ()), (d, r, c, (), (), (), ()), ((), ()), (l_6, ()), (d_2.1.1, (), ()), ((), (), ()), ((), (), ()), ()) ∧ (∀ c_3 d_3, uRd (((), (), (), (), (), (), (), l_5, Int.ofNat (ordC l_4).length, 0, ()), (d, r, c, (), (), (), ()), ((), ()), (l_6, ()), (d_2.1.1, (), ()), ((), (), ()), ((), (), ()), ()) c_3 d_3 → False ∨ true = true ∧ uBt (((), ()), (d_3.2.1.1, (), ()), ()) ∧ (∀ c_4 d_4, uCj (((), ()), (d_3.2.1.1, (), ()), ()) c_4 d_4 → ∃ (a : Exa), WkL [AV.vs (List.flatMap En.f c_4.1) c_4.1.length c_4.1.length false none 2, AV.nilSlice] (Ex.f a) ∧ true = true ∧ R0 (zexZ q l k d r c) (a, 0, ()) ((d_3.1.1, d_3.1.2.1, d_3.1.2.2.1, (), (), (), ()), ())) ∧ True) ∧ True) ∧ True)) (∃ (a : Exa), WkL [AV.nilSlice, AV.nilSlice] (Ex.f a) ∧ true = true ∧ R0 (zexZ q l k d r c) (a, 2, ()) ((d, r, c, (), (), (), ()), ()))))) ∧ (∀ c_1 d_1, uIw ((l_1, Int.ofNat q.length, ()), ()) c_1 d_1 → ∃ (a : Exa), WkL [AV.nilSlice, AV.nilSlice] (Ex.f a) ∧ true = true ∧ R0 (zexZ q l k d r c) (a, Int.ofNat 2, ()) ((d, r, c, (), (), (), ()), ())) ∧ True) := by kernel_rfl
def uIn : exZZ → Prop := fun ((q, l, (), k, ()), (d, r, c, (), (), (), ()), ()) => chkE q l k = 0 ∧ l = [] ∧ 0 ≤ k ∧ k ≤ 16777216 ∧ vchk q q.length = 0 ∧ q.length ≤ 2000
def uRb : exZZ → uO3 → uL8 → Prop := fun ((q, l, (), k, ()), (d, r, c, (), (), (), ()), ()) (y, e, _) _ => ((y.1, y.2.1), e) = exV q [] [] k
noncomputable def exZK : CallC := callC 1 exZT uWs uIn (uRa uRb)
theorem exZStep (z : exZZ) (hp : uIn z) : callW PP (runW PP (KLX [(27, uSv), (32, mayK), (20, uSm), (37, uNn), (24, ordK), (26, uLl)] [(9, [(8, uSr)])] [44, 82, 26] [] []) 200) 9 (exZT.cells id z.1) (stL true (uWs.obs id z.2)) (fun v st => resAny 1 z v st (uRa uRb)) := by
 obtain ⟨⟨q, l, _, k, _⟩, ⟨⟨d, r, c, _, _, _, _⟩, _⟩⟩ := z
 refine (exZFn q l k d r c _).mpr ?_
 obtain ⟨hce, rfl, k0, k1, hv, hq⟩ := hp
 have EX : exV q [] [] k = (([], []), 0) := by
  rw [exV, hce]
  split
  ·rfl
  ·rfl
 refine ⟨q, Wk.refl _, rfl, trivial, fun c0 d0 h0 => ?_, fun c0 d0 h0 => ?_, trivial⟩
 case refine_2 => exact absurd (h0.symm.trans hv) (by decide)
 case refine_1 =>
  rw [ifp_lt, if_neg (by omega), ifp_lt, if_neg (by omega)]
  refine ⟨[], Wk.refl _, by show (0 : Nat) < _; decide, ?_⟩
  rw [ifp_pos (show ([] : List Cd).all mayC = true from rfl), ifp_eq]
  split
  ·exact ⟨([], [], ()), ⟨wk_nil En, wk_nil En, trivial⟩, rfl, EX.symm⟩
  ·refine ⟨rfl, ⟨k0, k1⟩, fun c1 d1 h1 => ?_, trivial⟩
   refine ⟨q, Wk.refl _, by show q.length ≤ 1000000; omega, [], Wk.refl _, by show (0 : Nat) ≤ 1000000; decide, exZLOk, trivial, trivial, [], Wk.refl _, uAa q, Wk.refl _, rfl, ⟨rfl, rfl, rfl⟩, fun cc dd hh => ?_, trivial⟩
   refine Or.inr ⟨rfl, trivial, fun c3 d3 h3 => ?_, trivial⟩
   obtain ⟨o3, _⟩ := c3
   obtain ⟨_, _⟩ := d3
   obtain ⟨ho, _⟩ := h3
   obtain rfl : o3 = [] := ho
   exact ⟨([], [], ()), ⟨Wk.refl _, wk_nil En, trivial⟩, rfl, EX.symm⟩
theorem exZCc : CcOk PP 9 exZK := call_ok mixed (KLX_ok (cc_cons uR0 (cc_cons uWa (cc_cons uP7 (cc_cons uHv (cc_cons ordCc (cc_cons uI1 (cc_nil)))))))) rfl exZStep
end Go.Proofs.YteehkdejkemnmaaDoor
namespace Go.Proofs.YteehkdejkemnmaaDoor
open Go.Det Go.RowKit
set_option maxRecDepth 100000
theorem lives21Ran : answersTrue ((run PP 1000).call 4 [] (stG 0 .u8 tab)) = true := by kernel_rfl
theorem lives21Cc {gl : Tr (List AV)} (hg : GlOk gl) : CcOk PP 4 (livesG gl) := livesG_ok mixed lives21Ran hg
def uAy : (List Near) × (List Near) × Unit → Prop := fun (a, b, ()) => uLq (a, b, ()) ∧ (decide (a = b)) = true
noncomputable def uFv : CallC := valC uOd uAy (fun _ => .bool true)
theorem sameNTCc : CcOk PP 10 uFv := val_ok rfl (fun ⟨a, ⟨b, _⟩⟩ h => by have := sameNVal a b h.1; rw [show uLp _ = .bool true from congrArg AV.bool h.2] at this; exact this)
theorem wf_i16 {x : Int} (h : (Lit.int .i16 x).wf = true) : -32768 ≤ x ∧ x < 32768 := by
 simp [Lit.wf] at h
 have h1 : (-32768 : Int) ≤ x := h.1
 have h2 : x ≤ (32767 : Int) := h.2
 omega
theorem lightV_inv {l : List (List Int)} {m n : Nat} (h : uDe l m n = true) : l.length ≤ m ∧ ∀ x ∈ l, x.length ≤ n := by
 simp only [uDe, Bool.and_eq_true, decide_eq_true_eq, List.all_eq_true] at h
 exact ⟨by omega, fun x hx => by have := h.2 x hx; omega⟩
noncomputable def uMz : CallC := orC uXz (orC uXy exZK)
theorem exactCc : CcOk PP 9 uMz := orC_ok exMNCc (orC_ok exMOCc exZCc)
noncomputable def uCr : Tel ((List (List Int)) × (List Int) × Int × Unit) := .cons 0 (.lst Evl) (.cons 1 (.lst Ei16) (.ji 2 (.nil)))
abbrev uAg : List Sh := [.slice (.slice (.int .i16)), .slice (.int .i16), .int .i64]
theorem rerankNarrowFn (gl : Tr (List AV)) (V : List (List Int)) (q : List Int) (k : Int) : (callW PP (runW PP (KLX [(4, livesG gl), (5, uDv), (6, uSi gl), (7, uSj), (8, uHf), (9, uMz), (10, uFv)] [(3, [(6, nwAC), (20, nwC)])] [44, 42, 82, 26, 23] [] []) 300) 3 (uCr.cells id (V, q, k, ())) (stBg true gl) (fun v _ => yesQ v)) = ( gl = gl ∧ true = true ∧ True ∧ (∀ (c : Unit × Unit) (d : Unit), True → ∃ l, Wv Evl V l ∧ uC2 (l, 60, 16, ()) ∧ ifp (uDe l 60 16) (ifp (!leInt 1 (Int.ofNat q.length)) True (ifp (!leInt (Int.ofNat q.length) 16) True (LoopOk PP 3 144 (loopBody PP 3 6).loop nwAC ∧ True ∧ True ∧ ∃ l, Wv Evl V l ∧ ∃ l_1, Wv Ei16 q l_1 ∧ true = true ∧ uP6 ((l, l_1, k, 0, ()), ()) ∧ (∀ c d, uV3 ((l, l_1, k, 0, ()), ()) c d → gl = gl ∧ ∃ l, Wv Evl c.1 l ∧ true = true ∧ uKg ((Int.ofNat c.2.1.length, l, ()), ()) ∧ (∀ c_1 d, uPn ((Int.ofNat c.2.1.length, l, ()), ()) c_1 d → True) ∧ (∀ c_1 d, uPm ((Int.ofNat c.2.1.length, l, ()), ()) c_1 d → uGo (c.2.2.1, 60, ()) ∧ ∃ l, Wv Ei16 c.2.1 l ∧ ∃ l_2, Wv Evl c.1 l_2 ∧ true = true ∧ uCv ((l, l_2, (), (), ()), ()) ∧ (∀ c_2 d_1, uDx ((l, l_2, (), (), ()), ()) c_2 d_1 → (∃ l, Wv Ei16 c.2.1 l ∧ ∃ l_3, Sa Ec d_1.1 l_3 ∧ ∃ l_4, Sa Eu64 d.2.1 l_4 ∧ ∃ l_5, Sa Ei16 d.2.2.1 l_5 ∧ true = true ∧ uEt ((l, c_2.1, (), wrapF .i64 (Int.add 1 (uA2 c.2.2.1 60)), ()), l_3, (d.1.1, d.1.2.1, d.1.2.2.1, d.1.2.2.2.1, d.1.2.2.2.2.1, (), ()), l_4, l_5, ()) ∧ (∀ c_3 d_2, uIq ((l, c_2.1, (), wrapF .i64 (Int.add 1 (uA2 c.2.2.1 60)), ()), l_3, (d.1.1, d.1.2.1, d.1.2.2.1, d.1.2.2.2.1, d.1.2.2.2.2.1, (), ()), l_4, l_5, ()) c_3 d_2 → ifp (!eqInt c_3.2.1 0) False (LoopOk PP 3 144 (loopBody PP 3 20).loop nwC ∧ (True ∧ True ∧ ((∃ l, Wv Ei16 c.2.1 l ∧ ∃ l, Sa Ec d_2.1 l ∧ False) ∨ ∃ l, Wv Ei16 c.2.1 l ∧ ∃ l_6, Sa Ec d_2.1 l_6 ∧ ∃ l_7, Sa Eu64 d_2.2.2.1 l_7 ∧ ∃ l_8, Sa Ei16 d_2.2.2.2.1 l_8 ∧ ∃ l_9, Wv En c_3.1.1 l_9 ∧ ∃ l_10, Wv En c_3.1.2.1 l_10 ∧ true = true ∧ uId ((l, wrapF .i64 (Int.add 1 (uA2 c.2.2.1 60)), (), c_2.1, (), 0, 0, ()), l_6, (d_2.2.1.1, d_2.2.1.2.1, d_2.2.1.2.2.1, d_2.2.1.2.2.2.1, d_2.2.1.2.2.2.2.1, [], ()), l_7, l_8, (), (l_9, l_10, ()), ()) ∧ (∀ c_4 d, uP3 ((l, wrapF .i64 (Int.add 1 (uA2 c.2.2.1 60)), (), c_2.1, (), 0, 0, ()), l_6, (d_2.2.1.1, d_2.2.1.2.1, d_2.2.1.2.2.1, d_2.2.1.2.2.2.1, d_2.2.1.2.2.2.2.1, [], ()), l_7, l_8, (), (l_9, l_10, ()), ()) c_4 d → (∃ l, Wv Ei16 c_4.1 l ∧ ∃ l, Sa Ec d.1 l ∧ False) ∨ (∃ l, Wv Ei16 c_4.1 l ∧ ∃ l_11, Sa Ec d.1 l_11 ∧ ∃ l_12, Ow Ei64 d.2.1.2.2.2.2.2.1 l_12 1 ∧ ∃ l_13, Sa Eu64 d.2.2.1 l_13 ∧ ∃ l_14, Sa Ei16 d.2.2.2.1 l_14 ∧ true = true ∧ uHm ((l, c_4.2.2.2.1, (), c_4.2.1, ()), l_11, (d.2.1.1, d.2.1.2.1, d.2.1.2.2.1, d.2.1.2.2.2.1, d.2.1.2.2.2.2.1, l_12, ()), l_13, l_14, (), ()) ∧ (∀ c d_3, uM1 ((l, c_4.2.2.2.1, (), c_4.2.1, ()), l_11, (d.2.1.1, d.2.1.2.1, d.2.1.2.2.1, d.2.1.2.2.2.1, d.2.1.2.2.2.2.1, l_12, ()), l_13, l_14, (), ()) c d_3 → ifp (eqInt (Int.ofNat d.2.2.2.2.2.1.2.1.length) c_4.2.2.2.2.2.1) (ifp (eqInt c.2.1 0) (ifp (leInt (Int.ofNat d.2.2.2.2.2.1.2.1.length) (Int.ofNat c.1.2.1.length)) (∃ l, Wv En d.2.2.2.2.2.1.1 l ∧ ∃ l_15, Wv En c.1.1 l_15 ∧ uAy (l, l_15, ()) ∧ ifp (eqInt (Int.ofNat c.1.2.1.length) (Int.ofNat c_4.2.2.2.1.1)) True False) False) False) False) ∧ (∀ c d_3, uM0 ((l, c_4.2.2.2.1, (), c_4.2.1, ()), l_11, (d.2.1.1, d.2.1.2.1, d.2.1.2.2.1, d.2.1.2.2.2.1, d.2.1.2.2.2.2.1, l_12, ()), l_13, l_14, (), ()) c d_3 → ifp (eqInt (Int.ofNat d.2.2.2.2.2.1.2.1.length) c_4.2.2.2.2.2.1) (ifp (eqInt c.2.1 0) (ifp (leInt (Int.ofNat d.2.2.2.2.2.1.2.1.length) (Int.ofNat c.1.2.1.length)) (∃ l, Wv En d.2.2.2.2.2.1.1 l ∧ ∃ l_15, Wv En c.1.1 l_15 ∧ uAy (l, l_15, ()) ∧ ifp (eqInt (Int.ofNat c.1.2.1.length) (Int.ofNat c_4.2.2.2.1.1)) True False) False) False) False) ∧ True) ∨ ∃ l, Wv Ei16 c_4.1 l ∧ ∃ (l : List Cd), Wk (AV.slice 5 0 c_4.2.2.2.1.1 c_4.2.2.2.1.2 false 4) (lst Ec l) ∧ False) ∧ (∀ c_4 d, uP2 ((l, wrapF .i64 (Int.add 1 (uA2 c.2.2.1 60)), (), c_2.1, (), 0, 0, ()), l_6, (d_2.2.1.1, d_2.2.1.2.1, d_2.2.1.2.2.1, d_2.2.1.2.2.2.1, d_2.2.1.2.2.2.2.1, [], ()), l_7, l_8, (), (l_9, l_10, ()), ()) c_4 d → (∃ l, Wv Ei16 c_4.1 l ∧ ∃ l_11, Sa Ec d.1 l_11 ∧ ∃ l_12, Sa Eu64 d.2.2.1 l_12 ∧ ∃ l_13, Sa Ei16 d.2.2.2.1 l_13 ∧ true = true ∧ uEt ((l, c_4.2.2.2.1, (), c_4.2.1, ()), l_11, (d.2.1.1, d.2.1.2.1, d.2.1.2.2.1, d.2.1.2.2.2.1, d.2.1.2.2.2.2.1, (), ()), l_12, l_13, ()) ∧ (∀ c d_3, uIq ((l, c_4.2.2.2.1, (), c_4.2.1, ()), l_11, (d.2.1.1, d.2.1.2.1, d.2.1.2.2.1, d.2.1.2.2.2.1, d.2.1.2.2.2.2.1, (), ()), l_12, l_13, ()) c d_3 → ifp (eqInt (Int.ofNat d.2.2.2.2.1.2.1.length) c_4.2.2.2.2.2.1) (ifp (eqInt c.2.1 0) (ifp (leInt (Int.ofNat d.2.2.2.2.1.2.1.length) (Int.ofNat c.1.2.1.length)) (∃ l, Wv En d.2.2.2.2.1.1 l ∧ ∃ l_14, Wv En c.1.1 l_14 ∧ uAy (l, l_14, ()) ∧ ifp (eqInt (Int.ofNat c.1.2.1.length) (Int.ofNat c_4.2.2.2.1.1)) True False) False) False) False) ∧ (∀ c d_3, uIp ((l, c_4.2.2.2.1, (), c_4.2.1, ()), l_11, (d.2.1.1, d.2.1.2.1, d.2.1.2.2.1, d.2.1.2.2.2.1, d.2.1.2.2.2.2.1, (), ()), l_12, l_13, ()) c d_3 → ifp (eqInt (Int.ofNat d.2.2.2.2.1.2.1.length) c_4.2.2.2.2.2.1) (ifp (eqInt c.2.1 0) (ifp (leInt (Int.ofNat d.2.2.2.2.1.2.1.length) (Int.ofNat c.1.2.1.length)) (∃ l, Wv En d.2.2.2.2.1.1 l ∧ ∃ l_14, Wv En c.1.1 l_14 ∧ uAy (l, l_14, ()) ∧ ifp (eqInt (Int.ofNat c.1.2.1.length) (Int.ofNat c_4.2.2.2.1.1)) True False) False) False) False) ∧ True) ∨ (∃ l, Wv Ei16 c_4.1 l ∧ ∃ l, Sa Ec d.1 l ∧ False) ∨ ∃ l, Wv Ei16 c_4.1 l ∧ ∃ (l : List Cd), Wk (AV.slice 5 0 c_4.2.2.2.1.1 c_4.2.2.2.1.2 false 4) (lst Ec l) ∧ False) ∧ True) ∨ True ∧ True ∧ ∃ l, Wv Ei16 c.2.1 l ∧ False))) ∧ (∀ c_3 d_2, uIp ((l, c_2.1, (), wrapF .i64 (Int.add 1 (uA2 c.2.2.1 60)), ()), l_3, (d.1.1, d.1.2.1, d.1.2.2.1, d.1.2.2.2.1, d.1.2.2.2.2.1, (), ()), l_4, l_5, ()) c_3 d_2 → ifp (!eqInt c_3.2.1 0) False (LoopOk PP 3 144 (loopBody PP 3 20).loop nwC ∧ (True ∧ True ∧ ((∃ l, Wv Ei16 c.2.1 l ∧ ∃ l_6, Sa Ec d_2.1 l_6 ∧ ∃ l_7, Ow Ei64 d_2.2.1.2.2.2.2.2.1 l_7 1 ∧ ∃ l_8, Sa Eu64 d_2.2.2.1 l_8 ∧ ∃ l_9, Sa Ei16 d_2.2.2.2.1 l_9 ∧ ∃ l_10, Wv En c_3.1.1 l_10 ∧ ∃ l_11, Wv En c_3.1.2.1 l_11 ∧ true = true ∧ uId ((l, wrapF .i64 (Int.add 1 (uA2 c.2.2.1 60)), (), c_2.1, (), 0, 0, ()), l_6, (d_2.2.1.1, d_2.2.1.2.1, d_2.2.1.2.2.1, d_2.2.1.2.2.2.1, d_2.2.1.2.2.2.2.1, l_7, ()), l_8, l_9, (), (l_10, l_11, ()), ()) ∧ (∀ c_4 d, uP3 ((l, wrapF .i64 (Int.add 1 (uA2 c.2.2.1 60)), (), c_2.1, (), 0, 0, ()), l_6, (d_2.2.1.1, d_2.2.1.2.1, d_2.2.1.2.2.1, d_2.2.1.2.2.2.1, d_2.2.1.2.2.2.2.1, l_7, ()), l_8, l_9, (), (l_10, l_11, ()), ()) c_4 d → (∃ l, Wv Ei16 c_4.1 l ∧ ∃ l, Sa Ec d.1 l ∧ False) ∨ (∃ l, Wv Ei16 c_4.1 l ∧ ∃ l_12, Sa Ec d.1 l_12 ∧ ∃ l_13, Ow Ei64 d.2.1.2.2.2.2.2.1 l_13 1 ∧ ∃ l_14, Sa Eu64 d.2.2.1 l_14 ∧ ∃ l_15, Sa Ei16 d.2.2.2.1 l_15 ∧ true = true ∧ uHm ((l, c_4.2.2.2.1, (), c_4.2.1, ()), l_12, (d.2.1.1, d.2.1.2.1, d.2.1.2.2.1, d.2.1.2.2.2.1, d.2.1.2.2.2.2.1, l_13, ()), l_14, l_15, (), ()) ∧ (∀ c d_3, uM1 ((l, c_4.2.2.2.1, (), c_4.2.1, ()), l_12, (d.2.1.1, d.2.1.2.1, d.2.1.2.2.1, d.2.1.2.2.2.1, d.2.1.2.2.2.2.1, l_13, ()), l_14, l_15, (), ()) c d_3 → ifp (eqInt (Int.ofNat d.2.2.2.2.2.1.2.1.length) c_4.2.2.2.2.2.1) (ifp (eqInt c.2.1 0) (ifp (leInt (Int.ofNat d.2.2.2.2.2.1.2.1.length) (Int.ofNat c.1.2.1.length)) (∃ l, Wv En d.2.2.2.2.2.1.1 l ∧ ∃ l_16, Wv En c.1.1 l_16 ∧ uAy (l, l_16, ()) ∧ ifp (eqInt (Int.ofNat c.1.2.1.length) (Int.ofNat c_4.2.2.2.1.1)) True False) False) False) False) ∧ (∀ c d_3, uM0 ((l, c_4.2.2.2.1, (), c_4.2.1, ()), l_12, (d.2.1.1, d.2.1.2.1, d.2.1.2.2.1, d.2.1.2.2.2.1, d.2.1.2.2.2.2.1, l_13, ()), l_14, l_15, (), ()) c d_3 → ifp (eqInt (Int.ofNat d.2.2.2.2.2.1.2.1.length) c_4.2.2.2.2.2.1) (ifp (eqInt c.2.1 0) (ifp (leInt (Int.ofNat d.2.2.2.2.2.1.2.1.length) (Int.ofNat c.1.2.1.length)) (∃ l, Wv En d.2.2.2.2.2.1.1 l ∧ ∃ l_16, Wv En c.1.1 l_16 ∧ uAy (l, l_16, ()) ∧ ifp (eqInt (Int.ofNat c.1.2.1.length) (Int.ofNat c_4.2.2.2.1.1)) True False) False) False) False) ∧ True) ∨ ∃ l, Wv Ei16 c_4.1 l ∧ ∃ (l : List Cd), Wk (AV.slice 5 0 c_4.2.2.2.1.1 c_4.2.2.2.1.2 false 4) (lst Ec l) ∧ False) ∧ (∀ c_4 d, uP2 ((l, wrapF .i64 (Int.add 1 (uA2 c.2.2.1 60)), (), c_2.1, (), 0, 0, ()), l_6, (d_2.2.1.1, d_2.2.1.2.1, d_2.2.1.2.2.1, d_2.2.1.2.2.2.1, d_2.2.1.2.2.2.2.1, l_7, ()), l_8, l_9, (), (l_10, l_11, ()), ()) c_4 d → (∃ l, Wv Ei16 c_4.1 l ∧ ∃ l_12, Sa Ec d.1 l_12 ∧ ∃ l_13, Sa Eu64 d.2.2.1 l_13 ∧ ∃ l_14, Sa Ei16 d.2.2.2.1 l_14 ∧ true = true ∧ uEt ((l, c_4.2.2.2.1, (), c_4.2.1, ()), l_12, (d.2.1.1, d.2.1.2.1, d.2.1.2.2.1, d.2.1.2.2.2.1, d.2.1.2.2.2.2.1, (), ()), l_13, l_14, ()) ∧ (∀ c d_3, uIq ((l, c_4.2.2.2.1, (), c_4.2.1, ()), l_12, (d.2.1.1, d.2.1.2.1, d.2.1.2.2.1, d.2.1.2.2.2.1, d.2.1.2.2.2.2.1, (), ()), l_13, l_14, ()) c d_3 → ifp (eqInt (Int.ofNat d.2.2.2.2.1.2.1.length) c_4.2.2.2.2.2.1) (ifp (eqInt c.2.1 0) (ifp (leInt (Int.ofNat d.2.2.2.2.1.2.1.length) (Int.ofNat c.1.2.1.length)) (∃ l, Wv En d.2.2.2.2.1.1 l ∧ ∃ l_15, Wv En c.1.1 l_15 ∧ uAy (l, l_15, ()) ∧ ifp (eqInt (Int.ofNat c.1.2.1.length) (Int.ofNat c_4.2.2.2.1.1)) True False) False) False) False) ∧ (∀ c d_3, uIp ((l, c_4.2.2.2.1, (), c_4.2.1, ()), l_12, (d.2.1.1, d.2.1.2.1, d.2.1.2.2.1, d.2.1.2.2.2.1, d.2.1.2.2.2.2.1, (), ()), l_13, l_14, ()) c d_3 → ifp (eqInt (Int.ofNat d.2.2.2.2.1.2.1.length) c_4.2.2.2.2.2.1) (ifp (eqInt c.2.1 0) (ifp (leInt (Int.ofNat d.2.2.2.2.1.2.1.length) (Int.ofNat c.1.2.1.length)) (∃ l, Wv En d.2.2.2.2.1.1 l ∧ ∃ l_15, Wv En c.1.1 l_15 ∧ uAy (l, l_15, ()) ∧ ifp (eqInt (Int.ofNat c.1.2.1.length) (Int.ofNat c_4.2.2.2.1.1)) True False) False) False) False) ∧ True) ∨ (∃ l, Wv Ei16 c_4.1 l ∧ ∃ l, Sa Ec d.1 l ∧ False) ∨ ∃ l, Wv Ei16 c_4.1 l ∧ ∃ (l : List Cd), Wk (AV.slice 5 0 c_4.2.2.2.1.1 c_4.2.2.2.1.2 false 4) (lst Ec l) ∧ False) ∧ True) ∨ ∃ l, Wv Ei16 c.2.1 l ∧ ∃ l, Sa Ec d_2.1 l ∧ False) ∨ True ∧ True ∧ ∃ l, Wv Ei16 c.2.1 l ∧ False))) ∧ True) ∨ (∃ l, Wv Ei16 c.2.1 l ∧ ∃ l, Sa Ec d_1.1 l ∧ False) ∨ ∃ l, Wv Ei16 c.2.1 l ∧ ∃ (l : List Cd), Wk (AV.slice 5 0 c_2.1.1 c_2.1.2 false 4) (lst Ec l) ∧ False) ∧ (∀ c_2 d, uDw ((l, l_2, (), (), ()), ()) c_2 d → (∃ l, Wv Ei16 c.2.1 l ∧ False) ∨ (∃ l, Wv Ei16 c.2.1 l ∧ False) ∨ ∃ l, Wv Ei16 c.2.1 l ∧ ∃ (l : List Cd), Wk AV.nilSlice (lst Ec l) ∧ False) ∧ True) ∧ (∀ c_1 d, uPl ((Int.ofNat c.2.1.length, l, ()), ()) c_1 d → uGo (c.2.2.1, 60, ()) ∧ ∃ l, Wv Ei16 c.2.1 l ∧ ∃ l_2, Wv Evl c.1 l_2 ∧ true = true ∧ uCv ((l, l_2, (), (), ()), ()) ∧ (∀ c_2 d_1, uDx ((l, l_2, (), (), ()), ()) c_2 d_1 → (∃ l, Wv Ei16 c.2.1 l ∧ ∃ l, Sa Ec d_1.1 l ∧ False) ∨ (∃ l, Wv Ei16 c.2.1 l ∧ ∃ l, Sa Ec d_1.1 l ∧ False) ∨ ∃ l, Wv Ei16 c.2.1 l ∧ ∃ (l_3 : List Cd), Wk (AV.slice 2 0 c_2.1.1 c_2.1.2 false 4) (lst Ec l_3) ∧ true = true ∧ uIn ((l, l_3, (), wrapF .i64 (Int.add 1 (uA2 c.2.2.1 60)), ()), (d.1.1, d.1.2.1, d.1.2.2.1, (), (), (), ()), ()) ∧ (∀ c_3 d_2, uRb ((l, l_3, (), wrapF .i64 (Int.add 1 (uA2 c.2.2.1 60)), ()), (d.1.1, d.1.2.1, d.1.2.2.1, (), (), (), ()), ()) c_3 d_2 → ifp (!eqInt c_3.2.1 0) False (LoopOk PP 3 144 (loopBody PP 3 20).loop nwC ∧ (True ∧ True ∧ ((∃ l, Wv Ei16 c.2.1 l ∧ ∃ l, Sa Ec d_1.1 l ∧ False) ∨ ∃ l, Wv Ei16 c.2.1 l ∧ ∃ l, Sa Ec d_1.1 l ∧ False) ∨ True ∧ True ∧ ∃ l, Wv Ei16 c.2.1 l ∧ False))) ∧ True) ∧ (∀ c_2 d_1, uDw ((l, l_2, (), (), ()), ()) c_2 d_1 → (∃ l, Wv Ei16 c.2.1 l ∧ False) ∨ (∃ l, Wv Ei16 c.2.1 l ∧ False) ∨ ∃ l, Wv Ei16 c.2.1 l ∧ ∃ (l_3 : List Cd), Wk AV.nilSlice (lst Ec l_3) ∧ true = true ∧ uIn ((l, l_3, (), wrapF .i64 (Int.add 1 (uA2 c.2.2.1 60)), ()), (d.1.1, d.1.2.1, d.1.2.2.1, (), (), (), ()), ()) ∧ (∀ c_3 d_2, uRb ((l, l_3, (), wrapF .i64 (Int.add 1 (uA2 c.2.2.1 60)), ()), (d.1.1, d.1.2.1, d.1.2.2.1, (), (), (), ()), ()) c_3 d_2 → ifp (!eqInt c_3.2.1 0) False (LoopOk PP 3 144 (loopBody PP 3 20).loop nwC ∧ (True ∧ True ∧ ((∃ l, Wv Ei16 c.2.1 l ∧ False) ∨ ∃ l, Wv Ei16 c.2.1 l ∧ False) ∨ True ∧ True ∧ ∃ l, Wv Ei16 c.2.1 l ∧ ∃ l_4, Wv En c_3.1.1 l_4 ∧ ∃ l_5, Wv En c_3.1.2.1 l_5 ∧ true = true ∧ uP0 ((l, wrapF .i64 (Int.add 1 (uA2 c.2.2.1 60)), (), (), (), 0, 0, ()), (d_2.1.1, d_2.1.2.1, d_2.1.2.2.1, (), (), (), ()), (l_4, l_5, ()), ()) ∧ (∀ c_4 d, uVu ((l, wrapF .i64 (Int.add 1 (uA2 c.2.2.1 60)), (), (), (), 0, 0, ()), (d_2.1.1, d_2.1.2.1, d_2.1.2.2.1, (), (), (), ()), (l_4, l_5, ()), ()) c_4 d → (∃ l, Wv Ei16 c_4.1 l ∧ False) ∨ (∃ l, Wv Ei16 c_4.1 l ∧ False) ∨ ∃ l, Wv Ei16 c_4.1 l ∧ ∃ (l_6 : List Cd), Wk AV.nilSlice (lst Ec l_6) ∧ true = true ∧ uIn ((l, l_6, (), c_4.2.1, ()), (d.1.1, d.1.2.1, d.1.2.2.1, (), (), (), ()), ()) ∧ (∀ c d_3, uRb ((l, l_6, (), c_4.2.1, ()), (d.1.1, d.1.2.1, d.1.2.2.1, (), (), (), ()), ()) c d_3 → ifp (eqInt (Int.ofNat d.2.1.2.1.length) c_4.2.2.2.2.2.1) (ifp (eqInt c.2.1 0) (ifp (leInt (Int.ofNat d.2.1.2.1.length) (Int.ofNat c.1.2.1.length)) (∃ l, Wv En d.2.1.1 l ∧ ∃ l_7, Wv En c.1.1 l_7 ∧ uAy (l, l_7, ()) ∧ ifp (eqInt (Int.ofNat c.1.2.1.length) 0) True False) False) False) False) ∧ True) ∧ True))) ∧ True) ∧ True) ∧ True) ∧ (∀ c d, uV2 ((l, l_1, k, 0, ()), ()) c d → True) ∧ True))) True) ∧ True) := by kernel_rfl
theorem rerankNarrowHolds {gl : Tr (List AV)} (hg : GlOk gl) (V : List (List Int)) (q : List Int) (k : Int) (hV : Sh.plOk (.slice (.slice (.int .i16))) V) (hq : Sh.plOk (.slice (.int .i16)) q) (hk : Sh.plOk (.int .i64) k) : callW PP (runW PP (KLX [(4, livesG gl), (5, uDv), (6, uSi gl), (7, uSj), (8, uHf), (9, uMz), (10, uFv)] [(3, [(6, nwAC), (20, nwC)])] [44, 42, 82, 26, 23] [] []) 300) 3 (uCr.cells id (V, q, k, ())) (stBg true gl) (fun v _ => yesQ v) := by
 refine (rerankNarrowFn gl V q k).mpr ?_
 refine ⟨rfl, (by trivial), trivial, fun _ _ _ => ?_, trivial⟩
 refine ⟨V, Wk.refl _, by show (60 : Int) < _; decide, ?_⟩
 cases hL : uDe V 60 16 with
 | false => rw [ifp_neg rfl]; trivial
 | true =>
  rw [ifp_pos rfl, ifp_lt]
  split
  ·trivial
  ·rename_i hq1
   rw [ifp_lt]
   split
   ·trivial
   ·rename_i hq2
    obtain ⟨l1, l2⟩ := lightV_inv (m := 60) (n := 16) hL
    have hq1' : 1 ≤ q.length := by simp only [Int.ofNat_eq_natCast] at hq1; omega
    have hq2' : q.length ≤ 16 := by simp only [Int.ofNat_eq_natCast] at hq2; omega
    refine ⟨nwAOk, trivial, trivial, V, Wk.refl _, q, Wk.refl _, (by trivial), ⟨0, rfl, Nat.zero_le _, l1, fun j _ h9 => by omega⟩, fun cA dA hr => ?_, fun _ _ _ => trivial, trivial⟩
    obtain ⟨V2, q2, kk2, _⟩ := cA
    obtain ⟨g1, g2, g3, hlenV⟩ := hr
    obtain rfl : V = V2 := g1.symm
    obtain rfl : q = q2 := g2.symm
    obtain rfl : k = kk2 := g3.symm
    have iq : I16 q := fun x hx => wf_i16 (hq.1 x hx)
    have iV : ∀ v ∈ V, I16 v ∧ v.length = q.length := fun v hv => ⟨fun x hx => wf_i16 ((hV.1 v hv).1 x hx), hlenV v hv⟩
    obtain ⟨p1, p2⟩ := uC1 (n := k) (m := 60) (by decide)
    obtain ⟨k1, k2⟩ := wf_i64 hk
    have hK : 1 ≤ wrapF .i64 (Int.add 1 (uA2 k 60)) ∧ wrapF .i64 (Int.add 1 (uA2 k 60)) ≤ 60 := by
     rw [show wrapF .i64 (Int.add 1 (uA2 k 60)) = 1 + uA2 k 60 from wadd (by omega) (by omega)]; omega
    dsimp only
    generalize wrapF .i64 (Int.add 1 (uA2 k 60)) = K at *
    obtain ⟨hK1, hK2⟩ := hK
    have hfit : fitV (Int.ofNat q.length) V = V := fit_all fun v hv => by rw [hlenV v hv]; rfl
    obtain ⟨T, hX1, hT1⟩ := narrow_one (V := V) (k := K) iq iV hq1' (by omega) (by omega) (by omega)
    obtain ⟨T2, hX2, hT2⟩ := narrow_two (V := V) (k := K) iq iV hq1' (by omega) (by omega) (by omega)
    have hFl := uLk K (dnV q V)
    have hdl := dn_len q V
    have hkl : (knV q V [] []).length = V.length := uCg q V [] []
    have hFk : ((topL K (dnV q V)).length : Int) ≤ K := by omega
    have hle : Int.ofNat T.length ≤ Int.ofNat T2.length := by
     have h9 := List.length_filter_le (fun c : Cd => uBb K (topL K (dnV q V)) c.2.1) (knV q V [] [])
     simp only [Int.ofNat_eq_natCast]; omega
    have hsl : ∀ u ∈ (knV q V [] []), u.2.2.2.1 < 9223372036854775808 := fun u hu => by
     obtain ⟨i, h9, rfl⟩ := uIl hu
     rw [(uIk q [] [] _ i).2.1]; omega
    have fin1 : ∀ {y1 z1 : List Near} {e1 : Int}, ((y1, z1), e1) = exV q (knV q V [] []) V K → ((topL K (dnV q V)) = y1 ∧ T = z1) ∧ e1 = 0 := fun h => by
     rw [hX1] at h; simp only [Prod.mk.injEq] at h; exact ⟨⟨h.1.1.symm, h.1.2.symm⟩, h.2⟩
    have fin2 : ∀ (L4 : List Cd), L4 = (knV q V [] []).map wdC → ∀ {y1 z1 : List Near} {e1 : Int}, ((y1, z1), e1) = exV q L4 V K → ((topL K (dnV q V)) = y1 ∧ T2 = z1) ∧ e1 = 0 := fun L4 e4 {_ _ _} h => by
     rw [e4, hX2] at h; simp only [Prod.mk.injEq] at h; exact ⟨⟨h.1.1.symm, h.1.2.symm⟩, h.2⟩
    have hkp : V.length ≤ 60 ∧ q.length ≤ 1000 ∧ (∀ v ∈ V, v.length ≤ 1000) := ⟨l1, by omega, fun v hv => by have := l2 v hv; omega⟩
    refine ⟨rfl, V, Wk.refl _, (by trivial), ⟨l1, fun v hv => by have := l2 v hv; omega⟩, fun _ _ _ => trivial, fun c1 d1 h1 => ?_, fun c1 d1 h1 => ?_, trivial⟩
    ·obtain ⟨⟨d, r, c, t, a, _, _⟩, T1, A1, _⟩ := d1
     obtain ⟨hS0, hne, hd0, _⟩ := h1
     rw [hfit] at hS0 hne
     have hd1 : d = Int.ofNat q.length := hd0
     have hS : SlOk d r c t a T1 A1 V := by rw [hd1]; exact hS0
     have hV0 : 0 < V.length := List.length_pos_iff.2 hne
     refine ⟨⟨k1, k2, by decide⟩, q, Wk.refl _, V, Wk.refl _, (by trivial), hkp, fun c2 d2 h2 => ?_, fun c2 d2 h2 => ?_, trivial⟩
     ·obtain ⟨o2, _⟩ := c2
      obtain ⟨L2, _⟩ := d2
      obtain ⟨ho2, hL2, _⟩ := h2
      obtain rfl : (knV q V [] []) = L2 := Eq.symm hL2
      obtain rfl : o2 = ((knV q V [] []).length, (knV q V [] []).length) := ho2
      refine Or.inl ⟨q, Wk.refl _, (knV q V [] []), rfl, T1, rfl, A1, rfl, (by trivial), ⟨rfl, by omega, by omega, by omega, hsl, V, hS⟩, fun c3 d3 h3 => ?_, fun c3 d3 h3 => ?_, trivial⟩
      ·skip
       obtain ⟨⟨y1, z1, _⟩, e1, _⟩ := c3
       obtain ⟨L3, ⟨dd3, rr3, cc3, tt3, aa3, _⟩, T3, A3, _⟩ := d3
       obtain ⟨u1, u2, u3, u4, u5, u6, u7,  uL, hx⟩ := h3
       obtain rfl : d = dd3 := Eq.symm u1
       obtain rfl : r = rr3 := Eq.symm u2
       obtain rfl : c = cc3 := Eq.symm u3
       obtain rfl : t = tt3 := Eq.symm u4
       obtain rfl : a = aa3 := Eq.symm u5
       obtain rfl : T1 = T3 := Eq.symm u6
       obtain rfl : A1 = A3 := Eq.symm u7
       obtain rfl : (knV q V [] []) = L3 := Eq.symm uL
       obtain ⟨⟨rfl, rfl⟩, rfl⟩ := fin1 (hx V hS)
       have hxl : ([] : List Int).length ≤ 999000 := by decide
       rw [ifp_ne, if_pos rfl]
       refine ⟨nwOk, Or.inl ⟨trivial, trivial, Or.inr ⟨q, Wk.refl _, (knV q V [] []), rfl,  T1, rfl, A1, rfl, (topL K (dnV q V)), Wk.refl _, T, Wk.refl _, (by trivial), ⟨0, rfl, Nat.zero_le _, by omega, rfl, hK1, hFk, hK2, Int.le_refl _, Int.le_refl _⟩, fun c4 d4 h4 => ?_, fun c4 d4 h4 => ?_, trivial⟩⟩⟩
       ·skip
        obtain ⟨q4, k4, _, l4, _, w4, _⟩ := c4
        obtain ⟨L4, ⟨dd4, rr4, cc4, tt4, aa4, x4, _⟩, T4, A4, _, ⟨p4, z4, _⟩, _⟩ := d4
        obtain ⟨u1, u2, u3, uw, uL, u4, u5, u6, u7, u8, u9, u10, u11, u12, ux⟩ := h4
        obtain rfl : q = q4 := Eq.symm u1
        obtain rfl : K = k4 := Eq.symm u2
        obtain rfl : d = dd4 := Eq.symm u4
        obtain rfl : r = rr4 := Eq.symm u5
        obtain rfl : c = cc4 := Eq.symm u6
        obtain rfl : t = tt4 := Eq.symm u7
        obtain rfl : a = aa4 := Eq.symm u8
        obtain rfl : T1 = T4 := Eq.symm u9
        obtain rfl : A1 = A4 := Eq.symm u10
        obtain rfl : (topL K (dnV q V)) = p4 := Eq.symm u11
        obtain rfl : T = z4 := Eq.symm u12
        have eL : L4 = (knV q V [] []).map wdC := by rw [show L4 = nwL (knV q V [] []) 0 from uL, nwL]; simp
        have hL4 : L4.length = V.length := by rw [eL, List.length_map, uCg]
        have hl4 : l4 = (L4.length, L4.length) := by rw [show l4 = ((knV q V [] []).length, (knV q V [] []).length) from u3, hL4, uCg]
        have hwE : Int.ofNat T.length = w4 := by
         have h9 : w4 = 0 + nwW K (topL K (dnV q V)) (knV q V [] []) 0 := uw
         rw [h9, nwW, List.drop_zero, ← hT1]; simp
        have hlen : Int.ofNat T2.length = Int.ofNat l4.1 := by rw [hl4, hT2, hL4]
        have hsl4 : ∀ u ∈ L4, u.2.2.2.1 < 9223372036854775808 := fun u hu => by
         rw [eL] at hu
         obtain ⟨v, hv, rfl⟩ := List.mem_map.1 hu
         exact hsl v hv
        refine Or.inr (Or.inl ⟨q, Wk.refl _, L4, rfl, x4, ⟨WkL.refl _, (by trivial), (by trivial)⟩, T1, rfl, A1, rfl, (by trivial), ⟨hl4, by omega, by omega, by omega, hsl4, ⟨V, hS⟩, by show x4.length ≤ 999000; rw [show x4 = _ from ux]; exact hxl⟩, fun c5 d5 h5 => ?_, fun c5 d5 h5 => ?_, trivial⟩)
        ·skip
         obtain ⟨⟨y5, z5, _⟩, e5, _⟩ := c5
         obtain ⟨_, ⟨_, _, _, _, _, _, _⟩, _, _, _⟩ := d5
         obtain ⟨_, _, _, _, _, _, _, _, hx5⟩ := h5
         obtain ⟨⟨rfl, rfl⟩, rfl⟩ := fin2 L4 eL (hx5 V hS)
         rw [ifp_eq, if_pos hwE, ifp_eq, if_pos rfl, ifp_le, if_pos hle]
         exact ⟨(topL K (dnV q V)), Wk.refl _, (topL K (dnV q V)), Wk.refl _, ⟨by show (topL K (dnV q V)).length ≤ 1000000; omega, by simp⟩, by rw [ifp_eq, if_pos hlen]; trivial⟩
        ·skip
         obtain ⟨⟨y5, z5, _⟩, e5, _⟩ := c5
         obtain ⟨_, ⟨_, _, _, _, _, _, _⟩, _, _, _, _⟩ := d5
         obtain ⟨_, _, _, _, _, _, _, _, _, hx5⟩ := h5
         obtain ⟨⟨rfl, rfl⟩, rfl⟩ := fin2 L4 eL (hx5 V hS)
         rw [ifp_eq, if_pos hwE, ifp_eq, if_pos rfl, ifp_le, if_pos hle]
         exact ⟨(topL K (dnV q V)), Wk.refl _, (topL K (dnV q V)), Wk.refl _, ⟨by show (topL K (dnV q V)).length ≤ 1000000; omega, by simp⟩, by rw [ifp_eq, if_pos hlen]; trivial⟩
       ·skip
        obtain ⟨q4, k4, _, l4, _, w4, _⟩ := c4
        obtain ⟨L4, ⟨dd4, rr4, cc4, tt4, aa4, _⟩, T4, A4, ⟨p4, z4, _⟩, _⟩ := d4
        obtain ⟨u1, u2, u3, uw, uL, u4, u5, u6, u7, u8, u9, u10, u11, u12⟩ := h4
        obtain rfl : q = q4 := Eq.symm u1
        obtain rfl : K = k4 := Eq.symm u2
        obtain rfl : d = dd4 := Eq.symm u4
        obtain rfl : r = rr4 := Eq.symm u5
        obtain rfl : c = cc4 := Eq.symm u6
        obtain rfl : t = tt4 := Eq.symm u7
        obtain rfl : a = aa4 := Eq.symm u8
        obtain rfl : T1 = T4 := Eq.symm u9
        obtain rfl : A1 = A4 := Eq.symm u10
        obtain rfl : (topL K (dnV q V)) = p4 := Eq.symm u11
        obtain rfl : T = z4 := Eq.symm u12
        have eL : L4 = (knV q V [] []).map wdC := by rw [show L4 = nwL (knV q V [] []) 0 from uL, nwL]; simp
        have hL4 : L4.length = V.length := by rw [eL, List.length_map, uCg]
        have hl4 : l4 = (L4.length, L4.length) := by rw [show l4 = ((knV q V [] []).length, (knV q V [] []).length) from u3, hL4, uCg]
        have hwE : Int.ofNat T.length = w4 := by
         have h9 : w4 = 0 + nwW K (topL K (dnV q V)) (knV q V [] []) 0 := uw
         rw [h9, nwW, List.drop_zero, ← hT1]; simp
        have hlen : Int.ofNat T2.length = Int.ofNat l4.1 := by rw [hl4, hT2, hL4]
        have hsl4 : ∀ u ∈ L4, u.2.2.2.1 < 9223372036854775808 := fun u hu => by
         rw [eL] at hu
         obtain ⟨v, hv, rfl⟩ := List.mem_map.1 hu
         exact hsl v hv
        refine Or.inl ⟨q, Wk.refl _, L4, rfl,  T1, rfl, A1, rfl, (by trivial), ⟨hl4, by omega, by omega, by omega, hsl4, ⟨V, hS⟩⟩, fun c5 d5 h5 => ?_, fun c5 d5 h5 => ?_, trivial⟩
        ·skip
         obtain ⟨⟨y5, z5, _⟩, e5, _⟩ := c5
         obtain ⟨_, ⟨_, _, _, _, _, _, _⟩, _, _, _⟩ := d5
         obtain ⟨_, _, _, _, _, _, _, _, hx5⟩ := h5
         obtain ⟨⟨rfl, rfl⟩, rfl⟩ := fin2 L4 eL (hx5 V hS)
         rw [ifp_eq, if_pos hwE, ifp_eq, if_pos rfl, ifp_le, if_pos hle]
         exact ⟨(topL K (dnV q V)), Wk.refl _, (topL K (dnV q V)), Wk.refl _, ⟨by show (topL K (dnV q V)).length ≤ 1000000; omega, by simp⟩, by rw [ifp_eq, if_pos hlen]; trivial⟩
        ·skip
         obtain ⟨⟨y5, z5, _⟩, e5, _⟩ := c5
         obtain ⟨_, ⟨_, _, _, _, _, _, _⟩, _, _, _, _⟩ := d5
         obtain ⟨_, _, _, _, _, _, _, _, _, hx5⟩ := h5
         obtain ⟨⟨rfl, rfl⟩, rfl⟩ := fin2 L4 eL (hx5 V hS)
         rw [ifp_eq, if_pos hwE, ifp_eq, if_pos rfl, ifp_le, if_pos hle]
         exact ⟨(topL K (dnV q V)), Wk.refl _, (topL K (dnV q V)), Wk.refl _, ⟨by show (topL K (dnV q V)).length ≤ 1000000; omega, by simp⟩, by rw [ifp_eq, if_pos hlen]; trivial⟩
      ·skip
       obtain ⟨⟨y1, z1, _⟩, e1, _⟩ := c3
       obtain ⟨L3, ⟨dd3, rr3, cc3, tt3, aa3, x3, _⟩, T3, A3, _, _⟩ := d3
       obtain ⟨u1, u2, u3, u4, u5, u6, u7, ux3, uL, hx⟩ := h3
       obtain rfl : d = dd3 := Eq.symm u1
       obtain rfl : r = rr3 := Eq.symm u2
       obtain rfl : c = cc3 := Eq.symm u3
       obtain rfl : t = tt3 := Eq.symm u4
       obtain rfl : a = aa3 := Eq.symm u5
       obtain rfl : T1 = T3 := Eq.symm u6
       obtain rfl : A1 = A3 := Eq.symm u7
       obtain rfl : (knV q V [] []) = L3 := Eq.symm uL
       obtain ⟨⟨rfl, rfl⟩, rfl⟩ := fin1 (hx V hS)
       have hxl : x3.length ≤ 999000 := by have h9 : x3.length ≤ 60 := ux3; omega
       rw [ifp_ne, if_pos rfl]
       refine ⟨nwOk, Or.inl ⟨trivial, trivial, Or.inl ⟨q, Wk.refl _, (knV q V [] []), rfl, x3, ⟨WkL.refl _, (by trivial), (by trivial)⟩, T1, rfl, A1, rfl, (topL K (dnV q V)), Wk.refl _, T, Wk.refl _, (by trivial), ⟨0, rfl, Nat.zero_le _, by omega, rfl, hK1, hFk, hK2, Int.le_refl _, Int.le_refl _⟩, fun c4 d4 h4 => ?_, fun c4 d4 h4 => ?_, trivial⟩⟩⟩
       ·skip
        obtain ⟨q4, k4, _, l4, _, w4, _⟩ := c4
        obtain ⟨L4, ⟨dd4, rr4, cc4, tt4, aa4, x4, _⟩, T4, A4, _, ⟨p4, z4, _⟩, _⟩ := d4
        obtain ⟨u1, u2, u3, uw, uL, u4, u5, u6, u7, u8, u9, u10, u11, u12, ux⟩ := h4
        obtain rfl : q = q4 := Eq.symm u1
        obtain rfl : K = k4 := Eq.symm u2
        obtain rfl : d = dd4 := Eq.symm u4
        obtain rfl : r = rr4 := Eq.symm u5
        obtain rfl : c = cc4 := Eq.symm u6
        obtain rfl : t = tt4 := Eq.symm u7
        obtain rfl : a = aa4 := Eq.symm u8
        obtain rfl : T1 = T4 := Eq.symm u9
        obtain rfl : A1 = A4 := Eq.symm u10
        obtain rfl : (topL K (dnV q V)) = p4 := Eq.symm u11
        obtain rfl : T = z4 := Eq.symm u12
        have eL : L4 = (knV q V [] []).map wdC := by rw [show L4 = nwL (knV q V [] []) 0 from uL, nwL]; simp
        have hL4 : L4.length = V.length := by rw [eL, List.length_map, uCg]
        have hl4 : l4 = (L4.length, L4.length) := by rw [show l4 = ((knV q V [] []).length, (knV q V [] []).length) from u3, hL4, uCg]
        have hwE : Int.ofNat T.length = w4 := by
         have h9 : w4 = 0 + nwW K (topL K (dnV q V)) (knV q V [] []) 0 := uw
         rw [h9, nwW, List.drop_zero, ← hT1]; simp
        have hlen : Int.ofNat T2.length = Int.ofNat l4.1 := by rw [hl4, hT2, hL4]
        have hsl4 : ∀ u ∈ L4, u.2.2.2.1 < 9223372036854775808 := fun u hu => by
         rw [eL] at hu
         obtain ⟨v, hv, rfl⟩ := List.mem_map.1 hu
         exact hsl v hv
        refine Or.inr (Or.inl ⟨q, Wk.refl _, L4, rfl, x4, ⟨WkL.refl _, (by trivial), (by trivial)⟩, T1, rfl, A1, rfl, (by trivial), ⟨hl4, by omega, by omega, by omega, hsl4, ⟨V, hS⟩, by show x4.length ≤ 999000; rw [show x4 = _ from ux]; exact hxl⟩, fun c5 d5 h5 => ?_, fun c5 d5 h5 => ?_, trivial⟩)
        ·skip
         obtain ⟨⟨y5, z5, _⟩, e5, _⟩ := c5
         obtain ⟨_, ⟨_, _, _, _, _, _, _⟩, _, _, _⟩ := d5
         obtain ⟨_, _, _, _, _, _, _, _, hx5⟩ := h5
         obtain ⟨⟨rfl, rfl⟩, rfl⟩ := fin2 L4 eL (hx5 V hS)
         rw [ifp_eq, if_pos hwE, ifp_eq, if_pos rfl, ifp_le, if_pos hle]
         exact ⟨(topL K (dnV q V)), Wk.refl _, (topL K (dnV q V)), Wk.refl _, ⟨by show (topL K (dnV q V)).length ≤ 1000000; omega, by simp⟩, by rw [ifp_eq, if_pos hlen]; trivial⟩
        ·skip
         obtain ⟨⟨y5, z5, _⟩, e5, _⟩ := c5
         obtain ⟨_, ⟨_, _, _, _, _, _, _⟩, _, _, _, _⟩ := d5
         obtain ⟨_, _, _, _, _, _, _, _, _, hx5⟩ := h5
         obtain ⟨⟨rfl, rfl⟩, rfl⟩ := fin2 L4 eL (hx5 V hS)
         rw [ifp_eq, if_pos hwE, ifp_eq, if_pos rfl, ifp_le, if_pos hle]
         exact ⟨(topL K (dnV q V)), Wk.refl _, (topL K (dnV q V)), Wk.refl _, ⟨by show (topL K (dnV q V)).length ≤ 1000000; omega, by simp⟩, by rw [ifp_eq, if_pos hlen]; trivial⟩
       ·skip
        obtain ⟨q4, k4, _, l4, _, w4, _⟩ := c4
        obtain ⟨L4, ⟨dd4, rr4, cc4, tt4, aa4, _⟩, T4, A4, ⟨p4, z4, _⟩, _⟩ := d4
        obtain ⟨u1, u2, u3, uw, uL, u4, u5, u6, u7, u8, u9, u10, u11, u12⟩ := h4
        obtain rfl : q = q4 := Eq.symm u1
        obtain rfl : K = k4 := Eq.symm u2
        obtain rfl : d = dd4 := Eq.symm u4
        obtain rfl : r = rr4 := Eq.symm u5
        obtain rfl : c = cc4 := Eq.symm u6
        obtain rfl : t = tt4 := Eq.symm u7
        obtain rfl : a = aa4 := Eq.symm u8
        obtain rfl : T1 = T4 := Eq.symm u9
        obtain rfl : A1 = A4 := Eq.symm u10
        obtain rfl : (topL K (dnV q V)) = p4 := Eq.symm u11
        obtain rfl : T = z4 := Eq.symm u12
        have eL : L4 = (knV q V [] []).map wdC := by rw [show L4 = nwL (knV q V [] []) 0 from uL, nwL]; simp
        have hL4 : L4.length = V.length := by rw [eL, List.length_map, uCg]
        have hl4 : l4 = (L4.length, L4.length) := by rw [show l4 = ((knV q V [] []).length, (knV q V [] []).length) from u3, hL4, uCg]
        have hwE : Int.ofNat T.length = w4 := by
         have h9 : w4 = 0 + nwW K (topL K (dnV q V)) (knV q V [] []) 0 := uw
         rw [h9, nwW, List.drop_zero, ← hT1]; simp
        have hlen : Int.ofNat T2.length = Int.ofNat l4.1 := by rw [hl4, hT2, hL4]
        have hsl4 : ∀ u ∈ L4, u.2.2.2.1 < 9223372036854775808 := fun u hu => by
         rw [eL] at hu
         obtain ⟨v, hv, rfl⟩ := List.mem_map.1 hu
         exact hsl v hv
        refine Or.inl ⟨q, Wk.refl _, L4, rfl,  T1, rfl, A1, rfl, (by trivial), ⟨hl4, by omega, by omega, by omega, hsl4, ⟨V, hS⟩⟩, fun c5 d5 h5 => ?_, fun c5 d5 h5 => ?_, trivial⟩
        ·skip
         obtain ⟨⟨y5, z5, _⟩, e5, _⟩ := c5
         obtain ⟨_, ⟨_, _, _, _, _, _, _⟩, _, _, _⟩ := d5
         obtain ⟨_, _, _, _, _, _, _, _, hx5⟩ := h5
         obtain ⟨⟨rfl, rfl⟩, rfl⟩ := fin2 L4 eL (hx5 V hS)
         rw [ifp_eq, if_pos hwE, ifp_eq, if_pos rfl, ifp_le, if_pos hle]
         exact ⟨(topL K (dnV q V)), Wk.refl _, (topL K (dnV q V)), Wk.refl _, ⟨by show (topL K (dnV q V)).length ≤ 1000000; omega, by simp⟩, by rw [ifp_eq, if_pos hlen]; trivial⟩
        ·skip
         obtain ⟨⟨y5, z5, _⟩, e5, _⟩ := c5
         obtain ⟨_, ⟨_, _, _, _, _, _, _⟩, _, _, _, _⟩ := d5
         obtain ⟨_, _, _, _, _, _, _, _, _, hx5⟩ := h5
         obtain ⟨⟨rfl, rfl⟩, rfl⟩ := fin2 L4 eL (hx5 V hS)
         rw [ifp_eq, if_pos hwE, ifp_eq, if_pos rfl, ifp_le, if_pos hle]
         exact ⟨(topL K (dnV q V)), Wk.refl _, (topL K (dnV q V)), Wk.refl _, ⟨by show (topL K (dnV q V)).length ≤ 1000000; omega, by simp⟩, by rw [ifp_eq, if_pos hlen]; trivial⟩
     ·exfalso
      have h9 : (knV q V [] []) = [] := h2
      rw [h9] at hkl; simp at hkl; omega
    ·obtain ⟨hV0, _⟩ := h1
     rw [hfit] at hV0
     subst hV0
     have hkn : knV q [] [] [] = [] := rfl
     refine ⟨⟨k1, k2, by decide⟩, q, Wk.refl _, [], Wk.refl _, (by trivial), hkp, fun c2 d2 h2 => ?_, fun c2 d2 h2 => ?_, trivial⟩
     ·exfalso
      obtain ⟨o2, _⟩ := c2
      obtain ⟨L2, _⟩ := d2
      obtain ⟨_, hL2, hn⟩ := h2
      exact hn hL2
     ·have hce : chkE q [] K = 0 := uTv (V := []) (lo := []) (hi := []) hq1' (by omega) (by omega) (by omega)
      have hT0 : T.length = 0 := by rw [hT1]; rfl
      have hzp : chkE q [] K = 0 ∧ ([] : List Cd) = [] ∧ 0 ≤ K ∧ K ≤ 16777216 ∧ vchk q q.length = 0 ∧ q.length ≤ 2000 := ⟨hce, rfl, by omega, by omega, (chk_zero hce).1, by omega⟩
      refine Or.inr (Or.inr ⟨q, Wk.refl _, [], wk_nil Ec, (by trivial), hzp, fun c3 d3 h3 => ?_, trivial⟩)
      obtain ⟨⟨y1, z1, _⟩, e1, _⟩ := c3
      obtain ⟨⟨d, r, c, _, _, _, _⟩, _⟩ := d3
      obtain ⟨⟨rfl, rfl⟩, rfl⟩ := fin1 h3
      rw [ifp_ne, if_pos rfl]
      refine ⟨nwOk, Or.inr ⟨trivial, trivial, q, Wk.refl _, (topL K (dnV q [])), Wk.refl _, T, Wk.refl _, (by trivial), rfl, fun c4 d4 h4 => ?_, trivial⟩⟩
      obtain ⟨q4, k4, _, _, _, w4, _⟩ := c4
      obtain ⟨⟨dd4, rr4, cc4, _, _, _, _⟩, ⟨p4, z4, _⟩, _⟩ := d4
      obtain ⟨u1, u2, uw, u4, u5, u6, u11, u12⟩ := h4
      obtain rfl : q = q4 := Eq.symm u1
      obtain rfl : K = k4 := Eq.symm u2
      obtain rfl : (0 : Int) = w4 := Eq.symm uw
      obtain rfl : (topL K (dnV q [])) = p4 := Eq.symm u11
      obtain rfl : T = z4 := Eq.symm u12
      refine Or.inr (Or.inr ⟨q, Wk.refl _, [], wk_nil Ec, (by trivial), hzp, fun c5 d5 h5 => ?_, trivial⟩)
      obtain ⟨⟨y5, z5, _⟩, e5, _⟩ := c5
      obtain ⟨⟨rfl, rfl⟩, rfl⟩ := fin2 [] rfl h5
      rw [ifp_eq, if_pos (by show ((T.length : Nat) : Int) = 0; omega), ifp_eq, if_pos rfl, ifp_le, if_pos hle]
      exact ⟨(topL K (dnV q [])), Wk.refl _, (topL K (dnV q [])), Wk.refl _, ⟨by show (topL K (dnV q [])).length ≤ 1000000; omega, by simp⟩, by rw [ifp_eq, if_pos (by show ((T2.length : Nat) : Int) = 0; rw [hT2]; rfl)]; trivial⟩
theorem rerankNarrowTrue {gl : Tr (List AV)} (hg : GlOk gl) (y : ShPls uAg) (hy : ShPlOks uAg y) : callW PP (runW PP (KLX [(4, livesG gl), (5, uDv), (6, uSi gl), (7, uSj), (8, uHf), (9, uMz), (10, uFv)] [(3, [(6, nwAC), (20, nwC)])] [44, 42, 82, 26, 23] [] []) 300) 3 (ShPlAvs uAg y) (stBg true gl) (fun v _ => yesQ v) :=
 rerankNarrowHolds hg y.1 y.2.1 y.2.2.1 hy.1 hy.2.1 hy.2.2.1
theorem rerankNarrowCalls {x : ShVs uAg} (hx : ShOks uAg x) {W : World} {args : Array Value} (ht : ∀ (i : Nat) (v : Value), (tab.map fun z => Value.int .u8 z)[i]? = some v → W.cell? ⟨0, i, none⟩ = some v) (h : VRs (frozenAll W) (ShAvs uAg x) args.toList) : Calls PP 3 args W fun e w' => e = .returned (.bool true) ∧ Below W.heap.size W w' :=
 have hg : GlOk (glT 0 .u8 tab) := glT_is
 law_plain_g mixed (KLX_ok (cc_cons (lives21Cc hg) (cc_cons light16Cc (cc_cons (putGCc hg) (cc_cons pickCc (cc_cons knownRCc (cc_cons exactCc (cc_cons sameNTCc (cc_nil))))))))) (rerankNarrowTrue hg) hx ht h
end Go.Proofs.YteehkdejkemnmaaDoor
