/- Part of the proof of RerankExact. -/
import Derived.Test.YteehkdejkemnmacDoorRows
import Derived.Test.YteehkdejkemnmacDoorDd
import Derived.ProofKit
import Derived.Test.YteehkdejkemnmacDoorPa
import Derived.Test.YteehkdejkemnmacDoorDe
import Derived.Test.YteehkdejkemnmacDoorPb
set_option linter.unusedVariables false
set_option linter.unusedSimpArgs false
namespace Go.Proofs.YteehkdejkemnmacDoor
open Go.Det Go.RowKit
set_option maxRecDepth 100000
noncomputable def fuF (fr : List Int) (V : List (List Int)) (k : Int) : List Cd → List Near → List Near × Int
 | [], L => (L, 0)
 | c :: cs, L => if (readV fr V c).2 ≠ 0 then ([], (readV fr V c).2) else fuF fr V k cs (uBr k L (readV fr V c).1)
abbrev qReHt0 := Int × Int × Int × (Nat × Nat) × (Nat × Nat) × (List Int) × Unit
abbrev qReHt2 := Unit × Unit × Unit × (List Cd) × Int × Int × Unit
abbrev qReHt3 := Unit × Unit
abbrev qReHt4 := qReHt0 × (List Int) × (List Int) × Unit × qReHt3 × ((List Int) × Unit) × (Int × (Nat × Nat) × Unit) × (List Near) × Unit
abbrev fuLZ := qReHt2 × qReHt4
noncomputable def fuLSl : Tel qReHt2 := .cons 2 (.ptr 0) (.cons 11 (.ptr 6) (.cons 13 (.fnp 40 [4, 5]) (.cons 38 (.lst Ec) (.ji 39 (.ji 40 (.nil))))))
noncomputable abbrev qReHr0 := Bk.row (.ji 0 (.ji 1 (.ji 2 (.cons 3 (.slq 1 1) (.cons 4 (.slq 2 1) (.cons 5 (.own Ei64 3) (.nil)))))))
noncomputable abbrev qReHr3 := Bk.row (.cons 0 (.lst Ei32) (.nil))
noncomputable abbrev qReHr4 := Bk.row (.cons 0 (.ptr 0) (.nil))
noncomputable def fuLBl : BTel qReHt4 := .cons qReHr0 (.cons (.rows Eu64 89) (.cons (.rows Ei16 27) (.cons (.spare) (.cons qReHr4 (.cons qReHr3 (.cons (.row (.ji 0 (.cons 1 (.slq 7 2) (.nil)))) (.cons (.rows En 46) (.nil))))))))
noncomputable def fuLSl0 : Tel qReHt2 := .cons 2 (.ptr 0) (.cons 11 (.ptr 6) (.cons 13 (.fnp 40 [4, 5]) (.cons 38 (.lst Ec) (.ji 39 (.ji 40 (.nil))))))
abbrev qReHt6 := qReHt0 × (List Int) × (List Int) × Unit × qReHt3 × ((List Int) × Unit) × (Int × Unit × Unit) × Unit
noncomputable abbrev qReHr2 := Bk.row (.ji 0 (.cons 1 (.nilS) (.nil)))
noncomputable def fuLBl0 : BTel qReHt6 := .cons qReHr0 (.cons (.rows Eu64 89) (.cons (.rows Ei16 27) (.cons (.spare) (.cons qReHr4 (.cons qReHr3 (.cons qReHr2 (.nil)))))))
noncomputable def fuLZ0 : qReHt2 → qReHt6 → fuLZ := fun ((), (), (), o, n, i, ()) ((d, r, c, t, a, x, ()), T, A, (), ((), ()), (f, ()), (k, (), ()), ()) => (((), (), (), o, n, i, ()), (d, r, c, t, a, x, ()), T, A, (), ((), ()), (f, ()), (k, (0, 0), ()), [], ())
noncomputable def fuLSl1 : Tel qReHt2 := .cons 2 (.ptr 0) (.cons 11 (.ptr 5) (.cons 13 (.fnp 40 [3, 4]) (.cons 38 (.lst Ec) (.ji 39 (.ji 40 (.nil))))))
abbrev qReHt1 := Int × Int × Int × (Nat × Nat) × (Nat × Nat) × Unit × Unit
abbrev qReHt7 := qReHt1 × (List Int) × (List Int) × qReHt3 × ((List Int) × Unit) × (Int × Unit × Unit) × Unit
noncomputable abbrev qReHr1 := Bk.row (.ji 0 (.ji 1 (.ji 2 (.cons 3 (.slq 1 1) (.cons 4 (.slq 2 1) (.cons 5 (.nilS) (.nil)))))))
noncomputable def fuLBl1 : BTel qReHt7 := .cons qReHr1 (.cons (.rows Eu64 89) (.cons (.rows Ei16 27) (.cons qReHr4 (.cons qReHr3 (.cons qReHr2 (.nil))))))
noncomputable def fuLZ1 : qReHt2 → qReHt7 → fuLZ := fun ((), (), (), o, n, i, ()) ((d, r, c, t, a, (), ()), T, A, ((), ()), (f, ()), (k, (), ()), ()) => (((), (), (), o, n, i, ()), (d, r, c, t, a, [], ()), T, A, (), ((), ()), (f, ()), (k, (0, 0), ()), [], ())
noncomputable def fuLFs : List (LForm fuLZ) := [⟨_, _, fuLSl, fuLBl, fun x y => (x, y)⟩, ⟨_, _, fuLSl0, fuLBl0, fuLZ0⟩, ⟨_, _, fuLSl1, fuLBl1, fuLZ1⟩]
abbrev qReH0 := qReHt0 × (List Int) × (List Int) × Unit × (Int × (Nat × Nat) × Unit) × (List Near) × Unit
abbrev qReH1 := qReHt0 × (List Int) × (List Int) × Unit × (Int × Unit × Unit) × Unit
abbrev qReH2 := qReHt1 × (List Int) × (List Int) × (Int × Unit × Unit) × Unit
abbrev qReH3 := Unit × Int × Unit
abbrev qReH4 := qReHt0 × (List Int) × (List Int) × Unit × Unit
abbrev qReH5 := qReHt1 × (List Int) × (List Int) × Unit
noncomputable def fuLAlts (R0 : fuLZ → qReHt3 → qReH0 → Prop) (R1 : fuLZ → qReHt3 → qReH1 → Prop) (R2 : fuLZ → qReHt3 → qReH2 → Prop) (R3 : fuLZ → qReH3 → qReH4 → Prop) (R4 : fuLZ → qReH3 → qReH5 → Prop) : List (Alt fuLZ) := [⟨.exit 0, Unit × Unit, qReH0, .cons 11 (.ptr 4) (.nil), .cons qReHr0 (.cons (.rows Eu64 89) (.cons (.rows Ei16 27) (.cons (.spare) (.cons (.row (.ji 0 (.cons 1 (.slq 5 2) (.nil)))) (.cons (.rows En 46) (.nil)))))), R0⟩, ⟨.exit 0, Unit × Unit, qReH1, .cons 11 (.ptr 4) (.nil), .cons qReHr0 (.cons (.rows Eu64 89) (.cons (.rows Ei16 27) (.cons (.spare) (.cons qReHr2 (.nil))))), R1⟩, ⟨.exit 0, Unit × Unit, qReH2, .cons 11 (.ptr 3) (.nil), .cons qReHr1 (.cons (.rows Eu64 89) (.cons (.rows Ei16 27) (.cons qReHr2 (.nil)))), R2⟩, ⟨.ret, qReH3, qReH4, .cons 8 (.nilS) (.ji 9 (.nil)), .cons qReHr0 (.cons (.rows Eu64 89) (.cons (.rows Ei16 27) (.cons (.spare) (.nil)))), R3⟩, ⟨.ret, qReH3, qReH5, .cons 8 (.nilS) (.ji 9 (.nil)), .cons qReHr1 (.cons (.rows Eu64 89) (.cons (.rows Ei16 27) (.nil))), R4⟩]
noncomputable abbrev qReHk1 := KLX [(24, addK), (40, rdK)] [] [46, 89, 27] [] []
theorem fuLForm (o : List Cd) (n i d r c : Int) (t a : Nat × Nat) (x T A f : List Int) (k : Int) (h : Nat × Nat) (m : List Near) (N : fuLZ → Prop) (R0 : fuLZ → qReHt3 → qReH0 → Prop) (R1 : fuLZ → qReHt3 → qReH1 → Prop) (R2 : fuLZ → qReHt3 → qReH2 → Prop) (R3 : fuLZ → qReH3 → qReH4 → Prop) (R4 : fuLZ → qReH3 → qReH5 → Prop) : ((runW PP qReHk1 100).code none 10 59 (uAd PP 10 7) (mkT (fuLSl.av id ((), (), (), o, n, i, ()))) [] (stL true (fuLBl.obs id ((d, r, c, t, a, x, ()), T, A, (), ((), ()), (f, ()), (k, h, ()), m, ()))) (uCh 3 fuLFs (fuLAlts R0 R1 R2 R3 R4) (((), (), (), o, n, i, ()), (d, r, c, t, a, x, ()), T, A, (), ((), ()), (f, ()), (k, h, ()), m, ()) N)) = ( ifp (!uAf n i) (uAp i o.length ∧ ∃ x_1, Nt Ec (uAc i) 4 0 o x_1 ∧ ∃ x_2, Nt Ec (uAc i) 4 1 o x_2 ∧ ∃ x_3, Nt Ec (uAc i) 4 2 o x_3 ∧ ∃ x_4, Nt Ec (uAc i) 4 3 o x_4 ∧ ((∃ a : Cd, Ag4 x_1 x_2 x_3 x_4 a ∧ ∃ l, Wv Ei32 f l ∧ False) ∨ ∃ a_1 : Cd, Ag4 x_1 x_2 x_3 x_4 a_1 ∧ ∃ l, Wv Ei32 f l ∧ ∃ l_1, Ow Ei64 x l_1 1 ∧ ∃ l_2, Sa Eu64 T l_2 ∧ ∃ l_3, Sa Ei16 A l_3 ∧ true = true ∧ rdOPre ((a_1, (), (), ()), ((), ()), (l, ()), (d, r, c, t, a, l_1, ()), l_2, l_3, (), ()) ∧ (∀ c_1 d_1, rdOR0 ((a_1, (), (), ()), ((), ()), (l, ()), (d, r, c, t, a, l_1, ()), l_2, l_3, (), ()) c_1 d_1 → 2 ≤ 2 ∧ ifp (!uA0 c_1.2.1 0) ((True ∧ ∃ l, Ow Ei64 d_1.2.2.1.2.2.2.2.2.1 l 1 ∧ ∃ l_4, Sa Eu64 d_1.2.2.2.1 l_4 ∧ ∃ l_5, Sa Ei16 d_1.2.2.2.2.1 l_5 ∧ true = true ∧ R3 (((), (), (), o, n, i, ()), (d, r, c, t, a, x, ()), T, A, (), ((), ()), (f, ()), (k, h, ()), m, ()) ((), c_1.2.1, ()) ((d_1.2.2.1.1, d_1.2.2.1.2.1, d_1.2.2.1.2.2.1, d_1.2.2.1.2.2.2.1, d_1.2.2.1.2.2.2.2.1, l, ()), l_4, l_5, (), ())) ∨ True ∧ False) (∃ x : Int, some (I64 c_1.1.1) = some (I64 x) ∧ ∃ x_5 : Int, some (I64 c_1.1.2.1) = some (I64 x_5) ∧ ((∃ a : Near, Ag2 x x_5 a ∧ ∃ l, Sa En m l ∧ true = true ∧ add1Pre (((), a, ()), (k, h, ()), l, ()) ∧ (∀ c d, add1R0 (((), a, ()), (k, h, ()), l, ()) c d → True ∧ ((∃ l, Wv Ec o l ∧ ∃ l_4, Ow Ei64 d_1.2.2.1.2.2.2.2.2.1 l_4 1 ∧ ∃ l_5, Sa Eu64 d_1.2.2.2.1 l_5 ∧ ∃ l_6, Sa Ei16 d_1.2.2.2.2.1 l_6 ∧ ∃ l_7, Wv Ei32 d_1.2.1.1 l_7 ∧ ∃ l_8, Sa En d.2.1 l_8 ∧ true = true ∧ N (((), (), (), l, n, uAa .i64 (i.add 1), ()), (d_1.2.2.1.1, d_1.2.2.1.2.1, d_1.2.2.1.2.2.1, d_1.2.2.1.2.2.2.1, d_1.2.2.1.2.2.2.2.1, l_4, ()), l_5, l_6, (), ((), ()), (l_7, ()), (d.1.1, d.1.2.1, ()), l_8, ())) ∨ (∃ l, Wv Ec o l ∧ ∃ l, Ow Ei64 d_1.2.2.1.2.2.2.2.2.1 l 1 ∧ ∃ l, Sa Eu64 d_1.2.2.2.1 l ∧ ∃ l, Sa Ei16 d_1.2.2.2.2.1 l ∧ ∃ l, Wv Ei32 d_1.2.1.1 l ∧ False) ∨ ∃ l, Wv Ec o l ∧ False)) ∧ True) ∨ ∃ a : Near, Ag2 x x_5 a ∧ False))) ∧ True)) ((True ∧ ∃ l, Ow Ei64 x l 1 ∧ ∃ l_1, Sa Eu64 T l_1 ∧ ∃ l_2, Sa Ei16 A l_2 ∧ ∃ l_3, Sa En m l_3 ∧ true = true ∧ R0 (((), (), (), o, n, i, ()), (d, r, c, t, a, x, ()), T, A, (), ((), ()), (f, ()), (k, h, ()), m, ()) ((), ()) ((d, r, c, t, a, l, ()), l_1, l_2, (), (k, h, ()), l_3, ())) ∨ (True ∧ ∃ l, Ow Ei64 x l 1 ∧ ∃ l, Sa Eu64 T l ∧ ∃ l, Sa Ei16 A l ∧ False) ∨ True ∧ False)) := by kernel_rfl
theorem fuLForm0 (o : List Cd) (n i d r c : Int) (t a : Nat × Nat) (x T A f : List Int) (k : Int) (N : fuLZ → Prop) (R0 : fuLZ → qReHt3 → qReH0 → Prop) (R1 : fuLZ → qReHt3 → qReH1 → Prop) (R2 : fuLZ → qReHt3 → qReH2 → Prop) (R3 : fuLZ → qReH3 → qReH4 → Prop) (R4 : fuLZ → qReH3 → qReH5 → Prop) : ((runW PP qReHk1 100).code none 10 59 (uAd PP 10 7) (mkT (fuLSl0.av id ((), (), (), o, n, i, ()))) [] (stL true (fuLBl0.obs id ((d, r, c, t, a, x, ()), T, A, (), ((), ()), (f, ()), (k, (), ()), ()))) (uCh 3 fuLFs (fuLAlts R0 R1 R2 R3 R4) (fuLZ0 ((), (), (), o, n, i, ()) ((d, r, c, t, a, x, ()), T, A, (), ((), ()), (f, ()), (k, (), ()), ())) N)) = ( ifp (!uAf n i) (uAp i o.length ∧ ∃ x_1, Nt Ec (uAc i) 4 0 o x_1 ∧ ∃ x_2, Nt Ec (uAc i) 4 1 o x_2 ∧ ∃ x_3, Nt Ec (uAc i) 4 2 o x_3 ∧ ∃ x_4, Nt Ec (uAc i) 4 3 o x_4 ∧ ((∃ a : Cd, Ag4 x_1 x_2 x_3 x_4 a ∧ ∃ l, Wv Ei32 f l ∧ False) ∨ ∃ a_1 : Cd, Ag4 x_1 x_2 x_3 x_4 a_1 ∧ ∃ l, Wv Ei32 f l ∧ ∃ l_1, Ow Ei64 x l_1 1 ∧ ∃ l_2, Sa Eu64 T l_2 ∧ ∃ l_3, Sa Ei16 A l_3 ∧ true = true ∧ rdOPre ((a_1, (), (), ()), ((), ()), (l, ()), (d, r, c, t, a, l_1, ()), l_2, l_3, (), ()) ∧ (∀ c_1 d_1, rdOR0 ((a_1, (), (), ()), ((), ()), (l, ()), (d, r, c, t, a, l_1, ()), l_2, l_3, (), ()) c_1 d_1 → 2 ≤ 2 ∧ ifp (!uA0 c_1.2.1 0) ((True ∧ ∃ l, Ow Ei64 d_1.2.2.1.2.2.2.2.2.1 l 1 ∧ ∃ l_4, Sa Eu64 d_1.2.2.2.1 l_4 ∧ ∃ l_5, Sa Ei16 d_1.2.2.2.2.1 l_5 ∧ true = true ∧ R3 (((), (), (), o, n, i, ()), (d, r, c, t, a, x, ()), T, A, (), ((), ()), (f, ()), (k, (0, 0), ()), [], ()) ((), c_1.2.1, ()) ((d_1.2.2.1.1, d_1.2.2.1.2.1, d_1.2.2.1.2.2.1, d_1.2.2.1.2.2.2.1, d_1.2.2.1.2.2.2.2.1, l, ()), l_4, l_5, (), ())) ∨ True ∧ False) (∃ x : Int, some (I64 c_1.1.1) = some (I64 x) ∧ ∃ x_5 : Int, some (I64 c_1.1.2.1) = some (I64 x_5) ∧ ((∃ a : Near, Ag2 x x_5 a ∧ False) ∨ ∃ a : Near, Ag2 x x_5 a ∧ true = true ∧ add0Pre (((), a, ()), (k, (), ()), ()) ∧ (∀ c d, add0R0 (((), a, ()), (k, (), ()), ()) c d → True ∧ ((∃ l, Wv Ec o l ∧ ∃ l, Ow Ei64 d_1.2.2.1.2.2.2.2.2.1 l 1 ∧ ∃ l, Sa Eu64 d_1.2.2.2.1 l ∧ ∃ l, Sa Ei16 d_1.2.2.2.2.1 l ∧ ∃ l, Wv Ei32 d_1.2.1.1 l ∧ False) ∨ (∃ l, Wv Ec o l ∧ ∃ l_4, Ow Ei64 d_1.2.2.1.2.2.2.2.2.1 l_4 1 ∧ ∃ l_5, Sa Eu64 d_1.2.2.2.1 l_5 ∧ ∃ l_6, Sa Ei16 d_1.2.2.2.2.1 l_6 ∧ ∃ l_7, Wv Ei32 d_1.2.1.1 l_7 ∧ true = true ∧ N (((), (), (), l, n, uAa .i64 (i.add 1), ()), (d_1.2.2.1.1, d_1.2.2.1.2.1, d_1.2.2.1.2.2.1, d_1.2.2.1.2.2.2.1, d_1.2.2.1.2.2.2.2.1, l_4, ()), l_5, l_6, (), ((), ()), (l_7, ()), (d.1.1, (0, 0), ()), [], ())) ∨ ∃ l, Wv Ec o l ∧ False)) ∧ (∀ c d, add0R1 (((), a, ()), (k, (), ()), ()) c d → True ∧ ((∃ l, Wv Ec o l ∧ ∃ l_4, Ow Ei64 d_1.2.2.1.2.2.2.2.2.1 l_4 1 ∧ ∃ l_5, Sa Eu64 d_1.2.2.2.1 l_5 ∧ ∃ l_6, Sa Ei16 d_1.2.2.2.2.1 l_6 ∧ ∃ l_7, Wv Ei32 d_1.2.1.1 l_7 ∧ ∃ l_8, Sa En d.2.1 l_8 ∧ true = true ∧ N (((), (), (), l, n, uAa .i64 (i.add 1), ()), (d_1.2.2.1.1, d_1.2.2.1.2.1, d_1.2.2.1.2.2.1, d_1.2.2.1.2.2.2.1, d_1.2.2.1.2.2.2.2.1, l_4, ()), l_5, l_6, (), ((), ()), (l_7, ()), (d.1.1, d.1.2.1, ()), l_8, ())) ∨ (∃ l, Wv Ec o l ∧ ∃ l, Ow Ei64 d_1.2.2.1.2.2.2.2.2.1 l 1 ∧ ∃ l, Sa Eu64 d_1.2.2.2.1 l ∧ ∃ l, Sa Ei16 d_1.2.2.2.2.1 l ∧ ∃ l, Wv Ei32 d_1.2.1.1 l ∧ False) ∨ ∃ l, Wv Ec o l ∧ False)) ∧ True))) ∧ True)) ((True ∧ ∃ l, Ow Ei64 x l 1 ∧ ∃ l, Sa Eu64 T l ∧ ∃ l, Sa Ei16 A l ∧ False) ∨ (True ∧ ∃ l, Ow Ei64 x l 1 ∧ ∃ l_1, Sa Eu64 T l_1 ∧ ∃ l_2, Sa Ei16 A l_2 ∧ true = true ∧ R1 (((), (), (), o, n, i, ()), (d, r, c, t, a, x, ()), T, A, (), ((), ()), (f, ()), (k, (0, 0), ()), [], ()) ((), ()) ((d, r, c, t, a, l, ()), l_1, l_2, (), (k, (), ()), ())) ∨ True ∧ False)) := by kernel_rfl
theorem fuLForm1 (o : List Cd) (n i d r c : Int) (t a : Nat × Nat) (T A f : List Int) (k : Int) (N : fuLZ → Prop) (R0 : fuLZ → qReHt3 → qReH0 → Prop) (R1 : fuLZ → qReHt3 → qReH1 → Prop) (R2 : fuLZ → qReHt3 → qReH2 → Prop) (R3 : fuLZ → qReH3 → qReH4 → Prop) (R4 : fuLZ → qReH3 → qReH5 → Prop) : ((runW PP qReHk1 100).code none 10 59 (uAd PP 10 7) (mkT (fuLSl1.av id ((), (), (), o, n, i, ()))) [] (stL true (fuLBl1.obs id ((d, r, c, t, a, (), ()), T, A, ((), ()), (f, ()), (k, (), ()), ()))) (uCh 3 fuLFs (fuLAlts R0 R1 R2 R3 R4) (fuLZ1 ((), (), (), o, n, i, ()) ((d, r, c, t, a, (), ()), T, A, ((), ()), (f, ()), (k, (), ()), ())) N)) = ( ifp (!uAf n i) (uAp i o.length ∧ ∃ x, Nt Ec (uAc i) 4 0 o x ∧ ∃ x_1, Nt Ec (uAc i) 4 1 o x_1 ∧ ∃ x_2, Nt Ec (uAc i) 4 2 o x_2 ∧ ∃ x_3, Nt Ec (uAc i) 4 3 o x_3 ∧ ((∃ a_1 : Cd, Ag4 x x_1 x_2 x_3 a_1 ∧ ∃ l, Wv Ei32 f l ∧ ∃ l_1, Sa Eu64 T l_1 ∧ ∃ l_2, Sa Ei16 A l_2 ∧ true = true ∧ rdNPre ((a_1, (), (), ()), ((), ()), (l, ()), (d, r, c, t, a, (), ()), l_1, l_2, ()) ∧ (∀ c_1 d_1, rdNR0 ((a_1, (), (), ()), ((), ()), (l, ()), (d, r, c, t, a, (), ()), l_1, l_2, ()) c_1 d_1 → 2 ≤ 2 ∧ ifp (!uA0 c_1.2.1 0) (True ∧ False ∨ True ∧ ∃ l, Sa Eu64 d_1.2.2.2.1 l ∧ ∃ l_3, Sa Ei16 d_1.2.2.2.2.1 l_3 ∧ true = true ∧ R4 (((), (), (), o, n, i, ()), (d, r, c, t, a, [], ()), T, A, (), ((), ()), (f, ()), (k, (0, 0), ()), [], ()) ((), c_1.2.1, ()) ((d_1.2.2.1.1, d_1.2.2.1.2.1, d_1.2.2.1.2.2.1, d_1.2.2.1.2.2.2.1, d_1.2.2.1.2.2.2.2.1, (), ()), l, l_3, ())) (∃ x : Int, some (I64 c_1.1.1) = some (I64 x) ∧ ∃ x_4 : Int, some (I64 c_1.1.2.1) = some (I64 x_4) ∧ ((∃ a : Near, Ag2 x x_4 a ∧ False) ∨ ∃ a : Near, Ag2 x x_4 a ∧ true = true ∧ add0Pre (((), a, ()), (k, (), ()), ()) ∧ (∀ c d, add0R0 (((), a, ()), (k, (), ()), ()) c d → True ∧ ((∃ l, Wv Ec o l ∧ False) ∨ (∃ l, Wv Ec o l ∧ False) ∨ ∃ l, Wv Ec o l ∧ ∃ l_3, Sa Eu64 d_1.2.2.2.1 l_3 ∧ ∃ l_4, Sa Ei16 d_1.2.2.2.2.1 l_4 ∧ ∃ l_5, Wv Ei32 d_1.2.1.1 l_5 ∧ true = true ∧ N (((), (), (), l, n, uAa .i64 (i.add 1), ()), (d_1.2.2.1.1, d_1.2.2.1.2.1, d_1.2.2.1.2.2.1, d_1.2.2.1.2.2.2.1, d_1.2.2.1.2.2.2.2.1, [], ()), l_3, l_4, (), ((), ()), (l_5, ()), (d.1.1, (0, 0), ()), [], ()))) ∧ (∀ c d, add0R1 (((), a, ()), (k, (), ()), ()) c d → True ∧ ((∃ l, Wv Ec o l ∧ False) ∨ (∃ l, Wv Ec o l ∧ False) ∨ ∃ l, Wv Ec o l ∧ ∃ l, Sa Eu64 d_1.2.2.2.1 l ∧ ∃ l, Sa Ei16 d_1.2.2.2.2.1 l ∧ ∃ l, Wv Ei32 d_1.2.1.1 l ∧ False)) ∧ True))) ∧ (∀ c_1 d_1, rdNR1 ((a_1, (), (), ()), ((), ()), (l, ()), (d, r, c, t, a, (), ()), l_1, l_2, ()) c_1 d_1 → 2 ≤ 2 ∧ ifp (!uA0 c_1.2.1 0) ((True ∧ ∃ l, Ow Ei64 d_1.2.2.1.2.2.2.2.2.1 l 1 ∧ ∃ l_3, Sa Eu64 d_1.2.2.2.1 l_3 ∧ ∃ l_4, Sa Ei16 d_1.2.2.2.2.1 l_4 ∧ true = true ∧ R3 (((), (), (), o, n, i, ()), (d, r, c, t, a, [], ()), T, A, (), ((), ()), (f, ()), (k, (0, 0), ()), [], ()) ((), c_1.2.1, ()) ((d_1.2.2.1.1, d_1.2.2.1.2.1, d_1.2.2.1.2.2.1, d_1.2.2.1.2.2.2.1, d_1.2.2.1.2.2.2.2.1, l, ()), l_3, l_4, (), ())) ∨ True ∧ False) (∃ x : Int, some (I64 c_1.1.1) = some (I64 x) ∧ ∃ x_4 : Int, some (I64 c_1.1.2.1) = some (I64 x_4) ∧ ((∃ a : Near, Ag2 x x_4 a ∧ False) ∨ ∃ a : Near, Ag2 x x_4 a ∧ true = true ∧ add0Pre (((), a, ()), (k, (), ()), ()) ∧ (∀ c d, add0R0 (((), a, ()), (k, (), ()), ()) c d → True ∧ ((∃ l, Wv Ec o l ∧ ∃ l, Ow Ei64 d_1.2.2.1.2.2.2.2.2.1 l 1 ∧ ∃ l, Sa Eu64 d_1.2.2.2.1 l ∧ ∃ l, Sa Ei16 d_1.2.2.2.2.1 l ∧ ∃ l, Wv Ei32 d_1.2.1.1 l ∧ False) ∨ (∃ l, Wv Ec o l ∧ ∃ l_3, Ow Ei64 d_1.2.2.1.2.2.2.2.2.1 l_3 1 ∧ ∃ l_4, Sa Eu64 d_1.2.2.2.1 l_4 ∧ ∃ l_5, Sa Ei16 d_1.2.2.2.2.1 l_5 ∧ ∃ l_6, Wv Ei32 d_1.2.1.1 l_6 ∧ true = true ∧ N (((), (), (), l, n, uAa .i64 (i.add 1), ()), (d_1.2.2.1.1, d_1.2.2.1.2.1, d_1.2.2.1.2.2.1, d_1.2.2.1.2.2.2.1, d_1.2.2.1.2.2.2.2.1, l_3, ()), l_4, l_5, (), ((), ()), (l_6, ()), (d.1.1, (0, 0), ()), [], ())) ∨ ∃ l, Wv Ec o l ∧ False)) ∧ (∀ c d, add0R1 (((), a, ()), (k, (), ()), ()) c d → True ∧ ((∃ l, Wv Ec o l ∧ ∃ l_3, Ow Ei64 d_1.2.2.1.2.2.2.2.2.1 l_3 1 ∧ ∃ l_4, Sa Eu64 d_1.2.2.2.1 l_4 ∧ ∃ l_5, Sa Ei16 d_1.2.2.2.2.1 l_5 ∧ ∃ l_6, Wv Ei32 d_1.2.1.1 l_6 ∧ ∃ l_7, Sa En d.2.1 l_7 ∧ true = true ∧ N (((), (), (), l, n, uAa .i64 (i.add 1), ()), (d_1.2.2.1.1, d_1.2.2.1.2.1, d_1.2.2.1.2.2.1, d_1.2.2.1.2.2.2.1, d_1.2.2.1.2.2.2.2.1, l_3, ()), l_4, l_5, (), ((), ()), (l_6, ()), (d.1.1, d.1.2.1, ()), l_7, ())) ∨ (∃ l, Wv Ec o l ∧ ∃ l, Ow Ei64 d_1.2.2.1.2.2.2.2.2.1 l 1 ∧ ∃ l, Sa Eu64 d_1.2.2.2.1 l ∧ ∃ l, Sa Ei16 d_1.2.2.2.2.1 l ∧ ∃ l, Wv Ei32 d_1.2.1.1 l ∧ False) ∨ ∃ l, Wv Ec o l ∧ False)) ∧ True))) ∧ True) ∨ ∃ a : Cd, Ag4 x x_1 x_2 x_3 a ∧ ∃ l, Wv Ei32 f l ∧ False)) (True ∧ False ∨ True ∧ False ∨ True ∧ ∃ l, Sa Eu64 T l ∧ ∃ l_1, Sa Ei16 A l_1 ∧ true = true ∧ R2 (((), (), (), o, n, i, ()), (d, r, c, t, a, [], ()), T, A, (), ((), ()), (f, ()), (k, (0, 0), ()), [], ()) ((), ()) ((d, r, c, t, a, (), ()), l, l_1, (k, (), ()), ()))) := by kernel_rfl
def fuLInv : fuLZ → Prop := fun (((), (), (), o, n, i, ()), (d, r, c, t, a, x, ()), T, A, (), ((), ()), (f, ()), (k, h, ()), m, ()) => ∃ (q : Nat) (V : List (List Int)) (L : List Near), i = q ∧ n = o.length ∧ q ≤ o.length ∧ o.length ≤ 60 ∧ (∀ u ∈ o, u.2.2.2.1 < 9223372036854775808) ∧ SlOk d r c t a T A V ∧ 0 < k ∧ h = (m.length, m.length) ∧ TopOk k m L ∧ m.length ≤ q ∧ x.length ≤ 999900 + q
def fuLMu : fuLZ → Nat := fun (((), (), (), o, n, i, ()), (d, r, c, t, a, x, ()), T, A, (), ((), ()), (f, ()), (k, h, ()), m, ()) => o.length - i.toNat
def fuLR0 : fuLZ → qReHt3 → qReH0 → Prop := fun (((), (), (), o, n, i, ()), (d, r, c, t, a, x, ()), T, A, (), ((), ()), (f, ()), (k, h, ()), m, ()) _ ((d2, r2, c2, t2, a2, x2, _), T2, A2, _, (k2, h2, _), m2, _) => d2 = d ∧ r2 = r ∧ c2 = c ∧ t2 = t ∧ a2 = a ∧ T2 = T ∧ A2 = A ∧ x2.length + i.toNat ≤ x.length + o.length ∧ k2 = k ∧ h2 = (m2.length, m2.length) ∧ m2.length ≤ 60 ∧ ∀ V L, SlOk d r c t a T A V → TopOk k m L → ∃ L2, TopOk k m2 L2 ∧ fuF f V k (o.drop i.toNat) L = (L2, 0)
def fuLR1 : fuLZ → qReHt3 → qReH1 → Prop := fun (((), (), (), o, n, i, ()), (d, r, c, t, a, x, ()), T, A, (), ((), ()), (f, ()), (k, h, ()), m, ()) _ ((d2, r2, c2, t2, a2, x2, _), T2, A2, _) => d2 = d ∧ r2 = r ∧ c2 = c ∧ t2 = t ∧ a2 = a ∧ T2 = T ∧ A2 = A ∧ x2.length + i.toNat ≤ x.length + o.length ∧ ∀ V L, SlOk d r c t a T A V → TopOk k m L → fuF f V k (o.drop i.toNat) L = ([], 0)
def fuLR2 : fuLZ → qReHt3 → qReH2 → Prop := fun (((), (), (), o, n, i, ()), (d, r, c, t, a, x, ()), T, A, (), ((), ()), (f, ()), (k, h, ()), m, ()) _ ((d2, r2, c2, t2, a2, _), T2, A2, _) => d2 = d ∧ r2 = r ∧ c2 = c ∧ t2 = t ∧ a2 = a ∧ T2 = T ∧ A2 = A ∧ ∀ V L, SlOk d r c t a T A V → TopOk k m L → fuF f V k (o.drop i.toNat) L = ([], 0)
def fuLR3 : fuLZ → qReH3 → qReH4 → Prop := fun (((), (), (), o, n, i, ()), (d, r, c, t, a, x, ()), T, A, (), ((), ()), (f, ()), (k, h, ()), m, ()) (_, e, _) ((d2, r2, c2, t2, a2, x2, _), T2, A2, _) => d2 = d ∧ r2 = r ∧ c2 = c ∧ t2 = t ∧ a2 = a ∧ T2 = T ∧ A2 = A ∧ x2.length + i.toNat ≤ x.length + o.length ∧ ∀ V L, SlOk d r c t a T A V → TopOk k m L → fuF f V k (o.drop i.toNat) L = ([], e)
def fuLR4 : fuLZ → qReH3 → qReH5 → Prop := fun (((), (), (), o, n, i, ()), (d, r, c, t, a, x, ()), T, A, (), ((), ()), (f, ()), (k, h, ()), m, ()) (_, e, _) ((d2, r2, c2, t2, a2, _), T2, A2, _) => d2 = d ∧ r2 = r ∧ c2 = c ∧ t2 = t ∧ a2 = a ∧ T2 = T ∧ A2 = A ∧ ∀ V L, SlOk d r c t a T A V → TopOk k m L → fuF f V k (o.drop i.toNat) L = ([], e)
noncomputable def fuLC : uB5 := uC9 3 fuLFs (fuLAlts fuLR0 fuLR1 fuLR2 fuLR3 fuLR4) fuLInv
theorem fuLStep : uA3 PP qReHk1 100 10 59 (uAd PP 10 7) 3 true fuLFs (fuLAlts fuLR0 fuLR1 fuLR2 fuLR3 fuLR4) fuLInv fuLMu ⟨_, _, fuLSl, fuLBl, fun x y => (x, y)⟩ := by
 intro x y hz
 obtain ⟨_, _, _, o, n, i, _⟩ := x
 obtain ⟨⟨d, r, c, t, a, x, _⟩, T, A, _, ⟨_, _⟩, ⟨f, _⟩, ⟨k, h, _⟩, m, _⟩ := y
 refine (fuLForm o n i d r c t a x T A f k h m _ _ _ _ _ _).mpr ?_
 obtain ⟨q, V, L, rfl, rfl, hq, hol, hos, hV, hk0, rfl, hT, hmq, hxq⟩ := hz
 rw [uAe]
 simp only [uAt]
 split
 ·rename_i hlt
  have hql : q < o.length := by simpa using hlt
  refine ⟨uAk hql, _, nth_cd0 hql, _, nth_cd1 hql, _, nth_cd2 hql, _, nth_cd3 hql, ?_⟩
  refine Or.inr ⟨o[q], rfl, f, Wk.refl _, x, ⟨WkL.refl _, (by trivial), (by trivial)⟩, T, rfl, A, rfl, (by trivial), ⟨hos _ (List.getElem_mem hql), by show x.length ≤ _; omega, V, hV⟩, fun cr dr hr => ?_, trivial⟩
  obtain ⟨w, e, _⟩ := cr
  obtain ⟨_, ⟨f2, _⟩, ⟨d2, r2, c2, t2, a2, x2, _⟩, T2, A2, _, _⟩ := dr
  obtain ⟨q1, q2, q3, q4, q5, q6, q7, q8, hx2, hre⟩ := hr
  obtain rfl : d = d2 := q1.symm
  obtain rfl : r = r2 := q2.symm
  obtain rfl : c = c2 := q3.symm
  obtain rfl : t = t2 := q4.symm
  obtain rfl : a = a2 := q5.symm
  obtain rfl : f = f2 := q6.symm
  obtain rfl : T = T2 := q7.symm
  obtain rfl : A = A2 := q8.symm
  have hx2' : x2.length ≤ x.length + 1 := hx2
  have hxl0 : x.length ≤ 999900 + q := hxq
  dsimp only
  refine ⟨Nat.le_refl _, ?_⟩
  rw [uBu]
  split
  ·rename_i he0
   obtain rfl : e = 0 := he0
   refine ⟨w.1, rfl, w.2.1, rfl, Or.inl ⟨w, rfl, m, rfl, (by trivial), ⟨rfl, hT.h, by omega, by omega⟩, fun ca da ha => ?_, trivial⟩⟩
   obtain ⟨b, e3, _⟩ := ca
   obtain ⟨⟨k3, h3, _⟩, m3, _⟩ := da
   obtain ⟨_, hk3, hh3, hadd⟩ := ha
   obtain rfl : k = k3 := hk3.symm
   obtain rfl : h3 = (m3.length, m3.length) := hh3
   obtain ⟨hb, hT3⟩ := hT.add (by omega) hadd
   refine ⟨trivial, Or.inl ⟨o, Wk.refl _, x2, ⟨WkL.refl _, (by trivial), (by trivial)⟩, T, rfl, A, rfl, f, Wk.refl _, m3, rfl, (by trivial), ?_⟩⟩
   rw [uCb (by omega)]
   have hstep : ∀ V' L', SlOk d r c t a T A V' → TopOk k m L' → fuF f V' k (o.drop q) L' = fuF f V' k (o.drop (q + 1)) (uBr k L' w) := fun V' L' hV' _ => by
    rw [uBx hql, fuF, ← hre V' hV', if_neg (by simp)]
   have hl3 : m3.length ≤ q + 1 := by
    unfold addOk at hadd
    split at hadd
    ·have := hadd.2.1.length_eq; simp at this; omega
    ·split at hadd
     ·rw [hadd.2]; omega
     ·have := hadd.2.1.length_eq; simp at this; omega
   refine ⟨⟨q + 1, V, uBr k L w, rfl, rfl, hql, hol, hos, hV, hk0, rfl, hT3, hl3, by show x2.length ≤ 999900 + (q + 1); omega⟩, by show o.length - (q + 1) < o.length - q; omega, fun cc dd hh => ?_, fun cc dd hh => ?_, fun cc dd hh => ?_, fun cc dd hh => ?_, fun cc dd hh => ?_, trivial⟩
   ·obtain ⟨⟨d9, r9, c9, t9, a9, x9, _⟩, T9, A9, _, ⟨k9, h9, _⟩, m9, _⟩ := dd
    obtain ⟨g1, g2, g3, g4, g5, g6, g7, gx, g8, g9, g10, gE⟩ := hh
    have gx' : x9.length + (q + 1) ≤ x2.length + o.length := gx
    exact ⟨g1, g2, g3, g4, g5, g6, g7, by show x9.length + q ≤ x.length + o.length; omega, g8, g9, g10, fun V' L' hV' hT' => by
     obtain ⟨L2, y1, y2⟩ := gE V' (uBr k L' w) hV' (hT'.add (by omega) hadd).2
     exact ⟨L2, y1, (hstep V' L' hV' hT').trans y2⟩⟩
   ·obtain ⟨⟨d9, r9, c9, t9, a9, x9, _⟩, T9, A9, _⟩ := dd
    obtain ⟨g1, g2, g3, g4, g5, g6, g7, gx, gE⟩ := hh
    have gx' : x9.length + (q + 1) ≤ x2.length + o.length := gx
    exact ⟨g1, g2, g3, g4, g5, g6, g7, by show x9.length + q ≤ x.length + o.length; omega, fun V' L' hV' hT' => (hstep V' L' hV' hT').trans (gE V' (uBr k L' w) hV' (hT'.add (by omega) hadd).2)⟩
   ·obtain ⟨⟨d9, r9, c9, t9, a9, _⟩, T9, A9, _⟩ := dd
    obtain ⟨g1, g2, g3, g4, g5, g6, g7, gE⟩ := hh
    exact ⟨g1, g2, g3, g4, g5, g6, g7, fun V' L' hV' hT' => (hstep V' L' hV' hT').trans (gE V' (uBr k L' w) hV' (hT'.add (by omega) hadd).2)⟩
   ·obtain ⟨_, e9, _⟩ := cc
    obtain ⟨⟨d9, r9, c9, t9, a9, x9, _⟩, T9, A9, _⟩ := dd
    obtain ⟨g1, g2, g3, g4, g5, g6, g7, gx, gE⟩ := hh
    have gx' : x9.length + (q + 1) ≤ x2.length + o.length := gx
    exact ⟨g1, g2, g3, g4, g5, g6, g7, by show x9.length + q ≤ x.length + o.length; omega, fun V' L' hV' hT' => (hstep V' L' hV' hT').trans (gE V' (uBr k L' w) hV' (hT'.add (by omega) hadd).2)⟩
   ·obtain ⟨_, e9, _⟩ := cc
    obtain ⟨⟨d9, r9, c9, t9, a9, _⟩, T9, A9, _⟩ := dd
    obtain ⟨g1, g2, g3, g4, g5, g6, g7, gE⟩ := hh
    exact ⟨g1, g2, g3, g4, g5, g6, g7, fun V' L' hV' hT' => (hstep V' L' hV' hT').trans (gE V' (uBr k L' w) hV' (hT'.add (by omega) hadd).2)⟩
  ·rename_i he0
   exact Or.inl ⟨ trivial, x2, ⟨WkL.refl _, (by trivial), (by trivial)⟩, T, rfl, A, rfl, (by trivial), rfl, rfl, rfl, rfl, rfl, rfl, rfl, by show x2.length + q ≤ x.length + o.length; omega, fun V' L' hV' hT' => by
    show fuF f V' k (o.drop q) L' = _
    rw [uBx hql, fuF, ← hre V' hV', if_pos he0]⟩
 ·rename_i hlt
  have hql : ¬ q < o.length := by simpa using hlt
  exact Or.inl ⟨trivial, x, ⟨WkL.refl _, (by trivial), (by trivial)⟩, T, rfl, A, rfl, m, rfl, (by trivial), rfl, rfl, rfl, rfl, rfl, rfl, rfl, by show x.length + q ≤ _; omega, rfl, rfl, by show m.length ≤ 60; omega, fun V' L' hV' hT' => ⟨L', hT', by
   show fuF f V' k (o.drop q) L' = _
   rw [List.drop_of_length_le (by omega)]; rfl⟩⟩
theorem fuLStep0 : uA3 PP qReHk1 100 10 59 (uAd PP 10 7) 3 true fuLFs (fuLAlts fuLR0 fuLR1 fuLR2 fuLR3 fuLR4) fuLInv fuLMu ⟨_, _, fuLSl0, fuLBl0, fuLZ0⟩ := by
 intro x y hz
 obtain ⟨_, _, _, o, n, i, _⟩ := x
 obtain ⟨⟨d, r, c, t, a, x, _⟩, T, A, _, ⟨_, _⟩, ⟨f, _⟩, ⟨k, _, _⟩, _⟩ := y
 refine (fuLForm0 o n i d r c t a x T A f k _ _ _ _ _ _).mpr ?_
 obtain ⟨q, V, L, rfl, rfl, hq, hol, hos, hV, hk0, _, hT, hmq, hxq⟩ := hz
 rw [uAe]
 simp only [uAt]
 split
 ·rename_i hlt
  have hql : q < o.length := by simpa using hlt
  refine ⟨uAk hql, _, nth_cd0 hql, _, nth_cd1 hql, _, nth_cd2 hql, _, nth_cd3 hql, ?_⟩
  refine Or.inr ⟨o[q], rfl, f, Wk.refl _, x, ⟨WkL.refl _, (by trivial), (by trivial)⟩, T, rfl, A, rfl, (by trivial), ⟨hos _ (List.getElem_mem hql), by show x.length ≤ _; omega, V, hV⟩, fun cr dr hr => ?_, trivial⟩
  obtain ⟨w, e, _⟩ := cr
  obtain ⟨_, ⟨f2, _⟩, ⟨d2, r2, c2, t2, a2, x2, _⟩, T2, A2, _, _⟩ := dr
  obtain ⟨q1, q2, q3, q4, q5, q6, q7, q8, hx2, hre⟩ := hr
  obtain rfl : d = d2 := q1.symm
  obtain rfl : r = r2 := q2.symm
  obtain rfl : c = c2 := q3.symm
  obtain rfl : t = t2 := q4.symm
  obtain rfl : a = a2 := q5.symm
  obtain rfl : f = f2 := q6.symm
  obtain rfl : T = T2 := q7.symm
  obtain rfl : A = A2 := q8.symm
  have hx2' : x2.length ≤ x.length + 1 := hx2
  have hxl0 : x.length ≤ 999900 + q := hxq
  dsimp only
  refine ⟨Nat.le_refl _, ?_⟩
  rw [uBu]
  split
  ·rename_i he0
   obtain rfl : e = 0 := he0
   refine ⟨w.1, rfl, w.2.1, rfl, Or.inr ⟨w, rfl, (by trivial), by show 0 ≤ k; omega, fun ca da ha => ?_, fun ca da ha => ?_, trivial⟩⟩
   ·exfalso
    obtain ⟨b, e3, _⟩ := ca
    obtain ⟨⟨k3, _, _⟩, _⟩ := da
    obtain ⟨_, _, _, h9⟩ := ha
    have h9' : k = 0 := h9
    omega
   obtain ⟨b, e3, _⟩ := ca
   obtain ⟨⟨k3, h3, _⟩, m3, _⟩ := da
   obtain ⟨hb0, _, hk3, _, hh3, hm3⟩ := ha
   obtain rfl : k = k3 := hk3.symm
   obtain rfl : m3 = [w] := hm3
   obtain rfl : h3 = (1, 1) := hh3
   have hadd : addOk k ([] : List Near) w b [w] := by rw [addOk, if_pos (by simp; omega)]; exact ⟨hb0, List.Perm.refl _, fun j hj h0 => by simp at hj; omega⟩
   obtain ⟨hb, hT3⟩ := hT.add (by omega) hadd
   generalize hm3g : [w] = m3 at *
   have hm3l : m3.length = 1 := by rw [← hm3g]; rfl
   refine ⟨trivial, Or.inl ⟨o, Wk.refl _, x2, ⟨WkL.refl _, (by trivial), (by trivial)⟩, T, rfl, A, rfl, f, Wk.refl _, m3, rfl, (by trivial), ?_⟩⟩
   rw [uCb (by omega)]
   have hstep : ∀ V' L', SlOk d r c t a T A V' → TopOk k ([] : List Near) L' → fuF f V' k (o.drop q) L' = fuF f V' k (o.drop (q + 1)) (uBr k L' w) := fun V' L' hV' _ => by
    rw [uBx hql, fuF, ← hre V' hV', if_neg (by simp)]
   have hl3 : m3.length ≤ q + 1 := by
    unfold addOk at hadd
    split at hadd
    ·have := hadd.2.1.length_eq; simp at this; omega
    ·split at hadd
     ·rw [hadd.2]; omega
     ·have := hadd.2.1.length_eq; simp at this; omega
   refine ⟨⟨q + 1, V, uBr k L w, rfl, rfl, hql, hol, hos, hV, hk0, by show (1, 1) = (m3.length, m3.length); rw [hm3l], hT3, hl3, by show x2.length ≤ 999900 + (q + 1); omega⟩, by show o.length - (q + 1) < o.length - q; omega, fun cc dd hh => ?_, fun cc dd hh => ?_, fun cc dd hh => ?_, fun cc dd hh => ?_, fun cc dd hh => ?_, trivial⟩
   ·obtain ⟨⟨d9, r9, c9, t9, a9, x9, _⟩, T9, A9, _, ⟨k9, h9, _⟩, m9, _⟩ := dd
    obtain ⟨g1, g2, g3, g4, g5, g6, g7, gx, g8, g9, g10, gE⟩ := hh
    have gx' : x9.length + (q + 1) ≤ x2.length + o.length := gx
    exact ⟨g1, g2, g3, g4, g5, g6, g7, by show x9.length + q ≤ x.length + o.length; omega, g8, g9, g10, fun V' L' hV' hT' => by
     obtain ⟨L2, y1, y2⟩ := gE V' (uBr k L' w) hV' (hT'.add (by omega) hadd).2
     exact ⟨L2, y1, (hstep V' L' hV' hT').trans y2⟩⟩
   ·obtain ⟨⟨d9, r9, c9, t9, a9, x9, _⟩, T9, A9, _⟩ := dd
    obtain ⟨g1, g2, g3, g4, g5, g6, g7, gx, gE⟩ := hh
    have gx' : x9.length + (q + 1) ≤ x2.length + o.length := gx
    exact ⟨g1, g2, g3, g4, g5, g6, g7, by show x9.length + q ≤ x.length + o.length; omega, fun V' L' hV' hT' => (hstep V' L' hV' hT').trans (gE V' (uBr k L' w) hV' (hT'.add (by omega) hadd).2)⟩
   ·obtain ⟨⟨d9, r9, c9, t9, a9, _⟩, T9, A9, _⟩ := dd
    obtain ⟨g1, g2, g3, g4, g5, g6, g7, gE⟩ := hh
    exact ⟨g1, g2, g3, g4, g5, g6, g7, fun V' L' hV' hT' => (hstep V' L' hV' hT').trans (gE V' (uBr k L' w) hV' (hT'.add (by omega) hadd).2)⟩
   ·obtain ⟨_, e9, _⟩ := cc
    obtain ⟨⟨d9, r9, c9, t9, a9, x9, _⟩, T9, A9, _⟩ := dd
    obtain ⟨g1, g2, g3, g4, g5, g6, g7, gx, gE⟩ := hh
    have gx' : x9.length + (q + 1) ≤ x2.length + o.length := gx
    exact ⟨g1, g2, g3, g4, g5, g6, g7, by show x9.length + q ≤ x.length + o.length; omega, fun V' L' hV' hT' => (hstep V' L' hV' hT').trans (gE V' (uBr k L' w) hV' (hT'.add (by omega) hadd).2)⟩
   ·obtain ⟨_, e9, _⟩ := cc
    obtain ⟨⟨d9, r9, c9, t9, a9, _⟩, T9, A9, _⟩ := dd
    obtain ⟨g1, g2, g3, g4, g5, g6, g7, gE⟩ := hh
    exact ⟨g1, g2, g3, g4, g5, g6, g7, fun V' L' hV' hT' => (hstep V' L' hV' hT').trans (gE V' (uBr k L' w) hV' (hT'.add (by omega) hadd).2)⟩
  ·rename_i he0
   exact Or.inl ⟨ trivial, x2, ⟨WkL.refl _, (by trivial), (by trivial)⟩, T, rfl, A, rfl, (by trivial), rfl, rfl, rfl, rfl, rfl, rfl, rfl, by show x2.length + q ≤ x.length + o.length; omega, fun V' L' hV' hT' => by
    show fuF f V' k (o.drop q) L' = _
    rw [uBx hql, fuF, ← hre V' hV', if_pos he0]⟩
 ·rename_i hlt
  have hql : ¬ q < o.length := by simpa using hlt
  exact Or.inr (Or.inl ⟨trivial, x, ⟨WkL.refl _, (by trivial), (by trivial)⟩, T, rfl, A, rfl, (by trivial), rfl, rfl, rfl, rfl, rfl, rfl, rfl, by show x.length + q ≤ _; omega, fun V' L' hV' hT' => by
   obtain rfl : L' = [] := List.length_eq_zero_iff.1 hT'.len.symm
   show fuF f V' k (o.drop q) [] = _
   rw [List.drop_of_length_le (by omega)]; rfl⟩)
theorem fuLStep1 : uA3 PP qReHk1 100 10 59 (uAd PP 10 7) 3 true fuLFs (fuLAlts fuLR0 fuLR1 fuLR2 fuLR3 fuLR4) fuLInv fuLMu ⟨_, _, fuLSl1, fuLBl1, fuLZ1⟩ := by
 intro x y hz
 obtain ⟨_, _, _, o, n, i, _⟩ := x
 obtain ⟨⟨d, r, c, t, a, _, _⟩, T, A, ⟨_, _⟩, ⟨f, _⟩, ⟨k, _, _⟩, _⟩ := y
 refine (fuLForm1 o n i d r c t a T A f k _ _ _ _ _ _).mpr ?_
 obtain ⟨q, V, L, rfl, rfl, hq, hol, hos, hV, hk0, _, hT, hmq, hxq⟩ := hz
 rw [uAe]
 simp only [uAt]
 split
 ·rename_i hlt
  have hql : q < o.length := by simpa using hlt
  refine ⟨uAk hql, _, nth_cd0 hql, _, nth_cd1 hql, _, nth_cd2 hql, _, nth_cd3 hql, ?_⟩
  refine Or.inl ⟨o[q], rfl, f, Wk.refl _, T, rfl, A, rfl, (by trivial), ⟨hos _ (List.getElem_mem hql), V, hV⟩, fun cr dr hr => ?_, fun cr dr hr => ?_, trivial⟩
  ·obtain ⟨w, e, _⟩ := cr
   obtain ⟨_, ⟨f2, _⟩, ⟨d2, r2, c2, t2, a2, _⟩, T2, A2, _⟩ := dr
   obtain ⟨q1, q2, q3, q4, q5, q6, q7, q8, he6, hre⟩ := hr
   obtain rfl : d = d2 := q1.symm
   obtain rfl : r = r2 := q2.symm
   obtain rfl : c = c2 := q3.symm
   obtain rfl : t = t2 := q4.symm
   obtain rfl : a = a2 := q5.symm
   obtain rfl : f = f2 := q6.symm
   obtain rfl : T = T2 := q7.symm
   obtain rfl : A = A2 := q8.symm
   have he0 : e ≠ 0 := by rw [he6]; decide
   dsimp only
   refine ⟨Nat.le_refl _, ?_⟩
   rw [uBu, if_neg he0]
   exact Or.inr ⟨ trivial, T, rfl, A, rfl, (by trivial), rfl, rfl, rfl, rfl, rfl, rfl, rfl, fun V' L' hV' hT' => by
    show fuF f V' k (o.drop q) L' = _
    rw [uBx hql, fuF, ← hre V' hV', if_pos he0]⟩
  ·skip
   obtain ⟨w, e, _⟩ := cr
   obtain ⟨_, ⟨f2, _⟩, ⟨d2, r2, c2, t2, a2, x2, _⟩, T2, A2, _, _⟩ := dr
   obtain ⟨q1, q2, q3, q4, q5, q6, q7, q8, hx2, hre⟩ := hr
   obtain rfl : d = d2 := q1.symm
   obtain rfl : r = r2 := q2.symm
   obtain rfl : c = c2 := q3.symm
   obtain rfl : t = t2 := q4.symm
   obtain rfl : a = a2 := q5.symm
   obtain rfl : f = f2 := q6.symm
   obtain rfl : T = T2 := q7.symm
   obtain rfl : A = A2 := q8.symm
   have hx2' : x2.length ≤ ([] : List Int).length + 1 := hx2
   have hxl0 : ([] : List Int).length ≤ 999900 + q := hxq
   dsimp only
   refine ⟨Nat.le_refl _, ?_⟩
   rw [uBu]
   split
   ·rename_i he0
    obtain rfl : e = 0 := he0
    refine ⟨w.1, rfl, w.2.1, rfl, Or.inr ⟨w, rfl, (by trivial), by show 0 ≤ k; omega, fun ca da ha => ?_, fun ca da ha => ?_, trivial⟩⟩
    ·exfalso
     obtain ⟨b, e3, _⟩ := ca
     obtain ⟨⟨k3, _, _⟩, _⟩ := da
     obtain ⟨_, _, _, h9⟩ := ha
     have h9' : k = 0 := h9
     omega
    obtain ⟨b, e3, _⟩ := ca
    obtain ⟨⟨k3, h3, _⟩, m3, _⟩ := da
    obtain ⟨hb0, _, hk3, _, hh3, hm3⟩ := ha
    obtain rfl : k = k3 := hk3.symm
    obtain rfl : m3 = [w] := hm3
    obtain rfl : h3 = (1, 1) := hh3
    have hadd : addOk k ([] : List Near) w b [w] := by rw [addOk, if_pos (by simp; omega)]; exact ⟨hb0, List.Perm.refl _, fun j hj h0 => by simp at hj; omega⟩
    obtain ⟨hb, hT3⟩ := hT.add (by omega) hadd
    generalize hm3g : [w] = m3 at *
    have hm3l : m3.length = 1 := by rw [← hm3g]; rfl
    refine ⟨trivial, Or.inl ⟨o, Wk.refl _, x2, ⟨WkL.refl _, (by trivial), (by trivial)⟩, T, rfl, A, rfl, f, Wk.refl _, m3, rfl, (by trivial), ?_⟩⟩
    rw [uCb (by omega)]
    have hstep : ∀ V' L', SlOk d r c t a T A V' → TopOk k ([] : List Near) L' → fuF f V' k (o.drop q) L' = fuF f V' k (o.drop (q + 1)) (uBr k L' w) := fun V' L' hV' _ => by
     rw [uBx hql, fuF, ← hre V' hV', if_neg (by simp)]
    have hl3 : m3.length ≤ q + 1 := by
     unfold addOk at hadd
     split at hadd
     ·have := hadd.2.1.length_eq; simp at this; omega
     ·split at hadd
      ·rw [hadd.2]; omega
      ·have := hadd.2.1.length_eq; simp at this; omega
    refine ⟨⟨q + 1, V, uBr k L w, rfl, rfl, hql, hol, hos, hV, hk0, by show (1, 1) = (m3.length, m3.length); rw [hm3l], hT3, hl3, by show x2.length ≤ 999900 + (q + 1); omega⟩, by show o.length - (q + 1) < o.length - q; omega, fun cc dd hh => ?_, fun cc dd hh => ?_, fun cc dd hh => ?_, fun cc dd hh => ?_, fun cc dd hh => ?_, trivial⟩
    ·obtain ⟨⟨d9, r9, c9, t9, a9, x9, _⟩, T9, A9, _, ⟨k9, h9, _⟩, m9, _⟩ := dd
     obtain ⟨g1, g2, g3, g4, g5, g6, g7, gx, g8, g9, g10, gE⟩ := hh
     have gx' : x9.length + (q + 1) ≤ x2.length + o.length := gx
     exact ⟨g1, g2, g3, g4, g5, g6, g7, by show x9.length + q ≤ ([] : List Int).length + o.length; omega, g8, g9, g10, fun V' L' hV' hT' => by
      obtain ⟨L2, y1, y2⟩ := gE V' (uBr k L' w) hV' (hT'.add (by omega) hadd).2
      exact ⟨L2, y1, (hstep V' L' hV' hT').trans y2⟩⟩
    ·obtain ⟨⟨d9, r9, c9, t9, a9, x9, _⟩, T9, A9, _⟩ := dd
     obtain ⟨g1, g2, g3, g4, g5, g6, g7, gx, gE⟩ := hh
     have gx' : x9.length + (q + 1) ≤ x2.length + o.length := gx
     exact ⟨g1, g2, g3, g4, g5, g6, g7, by show x9.length + q ≤ ([] : List Int).length + o.length; omega, fun V' L' hV' hT' => (hstep V' L' hV' hT').trans (gE V' (uBr k L' w) hV' (hT'.add (by omega) hadd).2)⟩
    ·obtain ⟨⟨d9, r9, c9, t9, a9, _⟩, T9, A9, _⟩ := dd
     obtain ⟨g1, g2, g3, g4, g5, g6, g7, gE⟩ := hh
     exact ⟨g1, g2, g3, g4, g5, g6, g7, fun V' L' hV' hT' => (hstep V' L' hV' hT').trans (gE V' (uBr k L' w) hV' (hT'.add (by omega) hadd).2)⟩
    ·obtain ⟨_, e9, _⟩ := cc
     obtain ⟨⟨d9, r9, c9, t9, a9, x9, _⟩, T9, A9, _⟩ := dd
     obtain ⟨g1, g2, g3, g4, g5, g6, g7, gx, gE⟩ := hh
     have gx' : x9.length + (q + 1) ≤ x2.length + o.length := gx
     exact ⟨g1, g2, g3, g4, g5, g6, g7, by show x9.length + q ≤ ([] : List Int).length + o.length; omega, fun V' L' hV' hT' => (hstep V' L' hV' hT').trans (gE V' (uBr k L' w) hV' (hT'.add (by omega) hadd).2)⟩
    ·obtain ⟨_, e9, _⟩ := cc
     obtain ⟨⟨d9, r9, c9, t9, a9, _⟩, T9, A9, _⟩ := dd
     obtain ⟨g1, g2, g3, g4, g5, g6, g7, gE⟩ := hh
     exact ⟨g1, g2, g3, g4, g5, g6, g7, fun V' L' hV' hT' => (hstep V' L' hV' hT').trans (gE V' (uBr k L' w) hV' (hT'.add (by omega) hadd).2)⟩
   ·rename_i he0
    exact Or.inl ⟨ trivial, x2, ⟨WkL.refl _, (by trivial), (by trivial)⟩, T, rfl, A, rfl, (by trivial), rfl, rfl, rfl, rfl, rfl, rfl, rfl, by show x2.length + q ≤ ([] : List Int).length + o.length; omega, fun V' L' hV' hT' => by
     show fuF f V' k (o.drop q) L' = _
     rw [uBx hql, fuF, ← hre V' hV', if_pos he0]⟩
 ·rename_i hlt
  have hql : ¬ q < o.length := by simpa using hlt
  exact Or.inr (Or.inr ⟨trivial, T, rfl, A, rfl, (by trivial), rfl, rfl, rfl, rfl, rfl, rfl, rfl, fun V' L' hV' hT' => by
   obtain rfl : L' = [] := List.length_eq_zero_iff.1 hT'.len.symm
   show fuF f V' k (o.drop q) [] = _
   rw [List.drop_of_length_le (by omega)]; rfl⟩)
theorem fuLOk : uAs PP 10 59 (.loop (uAd PP 10 7)) (fuLC) := uBf fuLMu  mixed (uDp (uAi addCc (uAi rdCc (uAq)))) rfl (uAo fuLStep (uAo fuLStep0 (uAo fuLStep1 (uAx))))
noncomputable def fuV (q : List Int) (l : List Cd) (V : List (List Int)) (k : Int) : List Near × Int :=
 if chkE q l k ≠ 0 ∨ k = 0 then ([], chkE q l k) else fuF (uAv q) V k l []
abbrev qReHt5 := (List Int) × (List Cd) × Unit × Int × Unit
abbrev fuNZ := qReHt5 × qReH5
noncomputable def fuNT : Tel qReHt5 := .cons 0 (.lst Ei16) (.cons 1 (.lst Ec) (.cons 2 (.ptr 0) (.ji 3 (.nil))))
noncomputable def fuNBl : BTel qReH5 := .cons qReHr1 (.cons (.rows Eu64 89) (.cons (.rows Ei16 27) (.nil)))
abbrev qReH6 := (List Near) × Int × Unit
noncomputable def fuNRes (R0 : fuNZ → qReH6 → (Unit) → Prop) : List (Res fuNZ) := [⟨(List Near) × Int × Unit, Unit, .cons 0 (.lst En) (.ji 1 (.nil)), .nil, R0⟩]
abbrev zfuN (q : List Int) (l : List Cd) (k d r c : Int) (t a : Nat × Nat) (T A : List Int) : fuNZ := ((q, l, (), k, ()), (d, r, c, t, a, (), ()), T, A, ())
noncomputable abbrev qReHk0 := KLX [(31, chk2K), (29, mayK), (22, newYK), (39, wideK), (28, tlistK)] [(10, [(7, fuLC)])] [46, 89, 27] [] []
theorem fuNFn (q : List Int) (l : List Cd) (k d r c : Int) (t a : Nat × Nat) (T A : List Int) (R0 : fuNZ → qReH6 → (Unit) → Prop) : (uA2 PP (runW PP qReHk0 200) 10 (fuNT.cells id (q, l, (), k, ())) (stL true (fuNBl.obs id ((d, r, c, t, a, (), ()), T, A, ()))) (fun v st => uA1 0 (zfuN q l k d r c t a T A) v st (fuNRes R0))) = ( ∃ l_1, Wv Ei16 q l_1 ∧ true = true ∧ chk2Pre ((l_1, Int.ofNat q.length, ()), ()) ∧ (∀ c_1 d_1, chk2R0 ((l_1, Int.ofNat q.length, ()), ()) c_1 d_1 → ifp (!uAf 0 k) (∃ (l_2 : List Near), Wk AV.nilSlice (lst En l_2) ∧ true = true ∧ R0 (zfuN q l k d r c t a T A) (l_2, 2, ()) ()) (ifp (!uAf k 16777216) (∃ (l_2 : List Near), Wk AV.nilSlice (lst En l_2) ∧ true = true ∧ R0 (zfuN q l k d r c t a T A) (l_2, 2, ()) ()) (∃ l_2, Wv Ec l l_2 ∧ mayPre (l_2, ()) ∧ ifp (l_2.all mayC) (ifp (uA0 k 0) (∃ (l_3 : List Near), Wk AV.nilSlice (lst En l_3) ∧ true = true ∧ R0 (zfuN q l k d r c t a T A) (l_3, 0, ()) ()) (true = true ∧ newYPre ((k, ()), ()) ∧ (∀ c_2 d_2, newYR0 ((k, ()), ()) c_2 d_2 → ∃ l_3, Wv Ei16 q l_3 ∧ widePre (l_3, ()) ∧ uAs PP 10 59 (uAd PP 10 7).loop fuLC ∧ True ∧ True ∧ ((∃ l_4, Wv Ec l l_4 ∧ False) ∨ (∃ l_4, Wv Ec l l_4 ∧ False) ∨ ∃ l_4, Wv Ec l l_4 ∧ ∃ l_5, Sa Eu64 T l_5 ∧ ∃ l_6, Sa Ei16 A l_6 ∧ ∃ l_7, Wv Ei32 (uAv l_3) l_7 ∧ true = true ∧ fuLInv (((), (), (), l_4, Int.ofNat l.length, 0, ()), (d, r, c, t, a, [], ()), l_5, l_6, (), ((), ()), (l_7, ()), (d_2.1.1, (0, 0), ()), [], ()) ∧ (∀ c_3 d_3, fuLR0 (((), (), (), l_4, Int.ofNat l.length, 0, ()), (d, r, c, t, a, [], ()), l_5, l_6, (), ((), ()), (l_7, ()), (d_2.1.1, (0, 0), ()), [], ()) c_3 d_3 → (∃ l_8, Sa En d_3.2.2.2.2.2.1 l_8 ∧ true = true ∧ list1Pre (((), ()), (d_3.2.2.2.2.1.1, d_3.2.2.2.2.1.2.1, ()), l_8, ()) ∧ (∀ c_4 d_4, list1R0 (((), ()), (d_3.2.2.2.2.1.1, d_3.2.2.2.2.1.2.1, ()), l_8, ()) c_4 d_4 → ∃ l_9, Wv En c_4.1 l_9 ∧ true = true ∧ R0 (zfuN q l k d r c t a T A) (l_9, 0, ()) ()) ∧ True) ∨ False) ∧ (∀ c_3 d_3, fuLR1 (((), (), (), l_4, Int.ofNat l.length, 0, ()), (d, r, c, t, a, [], ()), l_5, l_6, (), ((), ()), (l_7, ()), (d_2.1.1, (0, 0), ()), [], ()) c_3 d_3 → False ∨ true = true ∧ list0Pre (((), ()), (d_3.2.2.2.2.1.1, (), ()), ()) ∧ (∀ c_4 d_4, list0R0 (((), ()), (d_3.2.2.2.2.1.1, (), ()), ()) c_4 d_4 → ∃ l_8, Wv En c_4.1 l_8 ∧ true = true ∧ R0 (zfuN q l k d r c t a T A) (l_8, 0, ()) ()) ∧ True) ∧ (∀ c_3 d_3, fuLR2 (((), (), (), l_4, Int.ofNat l.length, 0, ()), (d, r, c, t, a, [], ()), l_5, l_6, (), ((), ()), (l_7, ()), (d_2.1.1, (0, 0), ()), [], ()) c_3 d_3 → False ∨ true = true ∧ list0Pre (((), ()), (d_3.2.2.2.1.1, (), ()), ()) ∧ (∀ c_4 d_4, list0R0 (((), ()), (d_3.2.2.2.1.1, (), ()), ()) c_4 d_4 → ∃ l_8, Wv En c_4.1 l_8 ∧ true = true ∧ R0 (zfuN q l k d r c t a T A) (l_8, 0, ()) ()) ∧ True) ∧ (∀ c_3 d_3, fuLR3 (((), (), (), l_4, Int.ofNat l.length, 0, ()), (d, r, c, t, a, [], ()), l_5, l_6, (), ((), ()), (l_7, ()), (d_2.1.1, (0, 0), ()), [], ()) c_3 d_3 → ∃ (l_8 : List Near), Wk AV.nilSlice (lst En l_8) ∧ true = true ∧ R0 (zfuN q l k d r c t a T A) (l_8, c_3.2.1, ()) ()) ∧ (∀ (c_3 : Unit × Int × Unit) (d_3 : qReHt1 × List Int × List Int × Unit), (d_3.1.1 = d ∧ d_3.1.2.1 = r ∧ d_3.1.2.2.1 = c ∧ d_3.1.2.2.2.1 = t ∧ d_3.1.2.2.2.2.1 = a ∧ d_3.2.1 = l_5 ∧ d_3.2.2.1 = l_6 ∧ ∀ (V : List (List Int)) (L : List Near), SlOk d r c t a l_5 l_6 V → TopOk d_2.1.1 [] L → fuF l_7 V d_2.1.1 l_4 L = ([], c_3.2.1)) → ∃ (l_8 : List Near), Wk AV.nilSlice (lst En l_8) ∧ true = true ∧ R0 (zfuN q l k d r c t a T A) (l_8, c_3.2.1, ()) ()) ∧ True)) ∧ True)) (∃ (l_3 : List Near), Wk AV.nilSlice (lst En l_3) ∧ true = true ∧ R0 (zfuN q l k d r c t a T A) (l_3, 2, ()) ())))) ∧ (∀ c_1 d_1, chk2R1 ((l_1, Int.ofNat q.length, ()), ()) c_1 d_1 → ∃ (l_2 : List Near), Wk AV.nilSlice (lst En l_2) ∧ true = true ∧ R0 (zfuN q l k d r c t a T A) (l_2, Int.ofNat 2, ()) ()) ∧ True) := by kernel_rfl
def fuNPre : fuNZ → Prop := fun ((q, l, (), k, ()), (d, r, c, t, a, (), ()), T, A, ()) => q.length ≤ 2000 ∧ l.length ≤ 60 ∧ (∀ u ∈ l, u.2.2.2.1 < 9223372036854775808) ∧ (∃ V, SlOk d r c t a T A V)
def fuNR0 : fuNZ → qReH6 → (Unit) → Prop := fun ((q, l, (), k, ()), (d, r, c, t, a, (), ()), T, A, ()) (y, e, _) _ => ∀ V, SlOk d r c t a T A V → (y, e) = fuV q l V k
noncomputable def fuNK : uA6 := uD4 0 fuNT fuNBl fuNPre (fuNRes fuNR0)
theorem fuNStep (z : fuNZ) (hp : fuNPre z) : uA2 PP (runW PP qReHk0 200) 10 (fuNT.cells id z.1) (stL true (fuNBl.obs id z.2)) (fun v st => uA1 0 z v st (fuNRes fuNR0)) := by
 obtain ⟨⟨q, l, _, k, _⟩, ⟨⟨d, r, c, t, a, _, _⟩, T, A, _⟩⟩ := z
 refine (fuNFn q l k d r c t a T A _).mpr ?_
 obtain ⟨hq, hl, hs, hV0⟩ := hp
 have NO : ∀ e : Int, e = chkE q l k → (e ≠ 0 ∨ k = 0) → ∀ V, SlOk d r c t a T A V → (([] : List Near), e) = fuV q l V k := fun e h1 h2 V _ => by rw [fuV, if_pos (by rw [← h1]; exact h2), h1]
 refine ⟨q, Wk.refl _, rfl, trivial, fun c0 d0 h0 => ?_, fun c0 d0 h0 => ?_, trivial⟩
 case refine_2 =>
  have h0' : vchk q q.length = 2 := h0
  have hc2 : chkE q l k = 2 := by rw [chkE, h0']; rfl
  exact ⟨[], uBz En, rfl, NO _ (hc2.symm) (Or.inl (by decide))⟩
 case refine_1 =>
  have h0' : vchk q q.length = 0 := h0
  have hcE : chkE q l k = if k < 0 ∨ 16777216 < k ∨ l.all mayC = false then 2 else 0 := by rw [chkE, if_neg (by rw [h0']; simp)]
  rw [uAe]
  split
  ·rename_i h1
   have hc2 : chkE q l k = 2 := by rw [hcE, if_pos (Or.inl h1)]
   exact ⟨[], uBz En, rfl, NO _ (hc2.symm) (Or.inl (by decide))⟩
  ·rename_i h1
   rw [uAe]
   split
   ·rename_i h2
    have hc2 : chkE q l k = 2 := by rw [hcE, if_pos (Or.inr (Or.inl h2))]
    exact ⟨[], uBz En, rfl, NO _ (hc2.symm) (Or.inl (by decide))⟩
   ·rename_i h2
    refine ⟨l, Wk.refl _, by show l.length < _; omega, ?_⟩
    cases hm : l.all mayC with
    | false =>
     rw [uDn rfl]
     have hc2 : chkE q l k = 2 := by rw [hcE, if_pos (Or.inr (Or.inr hm))]
     exact ⟨[], uBz En, rfl, NO _ (hc2.symm) (Or.inl (by decide))⟩
    | true =>
     rw [uAj rfl, uCz]
     have hce : chkE q l k = 0 := by rw [hcE, if_neg (by rw [hm]; simp; omega)]
     split
     ·rename_i h3
      exact ⟨[], uBz En, rfl, NO _ (hce.symm) (Or.inr h3)⟩
     ·rename_i hk
      have k0 : 0 ≤ k := by omega
      have k1 : k ≤ 16777216 := by omega
      have EX : ∀ V, fuV q l V k = fuF (uAv q) V k l [] := fun V => by rw [fuV, if_neg (by rw [hce]; rintro (h9 | h9); exact h9 rfl; exact hk h9)]
      obtain ⟨V0, hV0⟩ := hV0
      refine ⟨rfl, ⟨k0, k1⟩, fun c1 d1 h1 => ?_, trivial⟩
      obtain ⟨⟨k1, _, _⟩, _⟩ := d1
      obtain rfl : k = k1 := Eq.symm h1
      have kp : 0 < k := by omega
      refine ⟨q, Wk.refl _, by show q.length ≤ 1000000; omega, fuLOk, trivial, trivial, ?_⟩
      refine Or.inr (Or.inr ⟨l, Wk.refl _, T, rfl, A, rfl, uAv q, Wk.refl _, rfl, ⟨0, V0, [], rfl, rfl, Nat.zero_le _, by omega, fun u hu => hs u hu, hV0, kp, rfl, TopOk.none (Int.le_of_lt kp), Nat.zero_le _, Nat.zero_le _⟩, fun cc dd hh => ?_, fun cc dd hh => ?_, fun cc dd hh => ?_, fun cc dd hh => ?_, fun cc dd hh => ?_, trivial⟩)
      ·skip
       obtain ⟨_, T2, A2, _, ⟨k2, h2, _⟩, m2, _⟩ := dd
       obtain ⟨_, _, _, _, _, _, _, _, gk, gh, gm, gE⟩ := hh
       refine Or.inl ⟨m2, rfl, rfl, ⟨gh, by show m2.length ≤ _; omega⟩, fun c3 d3 h3 => ?_, trivial⟩
       obtain ⟨o3, _⟩ := c3
       obtain ⟨_, _⟩ := d3
       obtain ⟨ho, _⟩ := h3
       obtain rfl : o3 = uBq m2 := ho
       exact ⟨uBq m2, Wk.refl _, rfl, fun V hV => by
        obtain ⟨L2, y1, y2⟩ := gE V [] hV (TopOk.none (Int.le_of_lt kp))
        rw [EX]
        have y3 : fuF (uAv q) V k l [] = (L2, 0) := y2
        rw [y3, y1.list]⟩
      ·skip
       obtain ⟨_, _, _, _, _, _, _, _, gE⟩ := hh
       refine Or.inr ⟨rfl, trivial, fun c3 d3 h3 => ?_, trivial⟩
       obtain ⟨o3, _⟩ := c3
       obtain ⟨_, _⟩ := d3
       obtain ⟨ho, _⟩ := h3
       obtain rfl : o3 = [] := ho
       exact ⟨[], Wk.refl _, rfl, fun V hV => by rw [EX]; exact (gE V [] hV (TopOk.none (Int.le_of_lt kp))).symm⟩
      ·skip
       obtain ⟨_, _, _, _, _, _, _, gE⟩ := hh
       refine Or.inr ⟨rfl, trivial, fun c3 d3 h3 => ?_, trivial⟩
       obtain ⟨o3, _⟩ := c3
       obtain ⟨_, _⟩ := d3
       obtain ⟨ho, _⟩ := h3
       obtain rfl : o3 = [] := ho
       exact ⟨[], Wk.refl _, rfl, fun V hV => by rw [EX]; exact (gE V [] hV (TopOk.none (Int.le_of_lt kp))).symm⟩
      ·skip
       obtain ⟨_, _, _, _, _, _, _, _, gE⟩ := hh
       exact ⟨[], uBz En, rfl, fun V hV => by rw [EX]; exact (gE V [] hV (TopOk.none (Int.le_of_lt kp))).symm⟩
      ·skip
       obtain ⟨_, _, _, _, _, _, _, gE⟩ := hh
       exact ⟨[], uBz En, rfl, fun V hV => by rw [EX]; exact (gE V [] hV (TopOk.none (Int.le_of_lt kp))).symm⟩
theorem fuNCc : CcOk PP 10 fuNK := uB4 mixed (uDp (uAi chk2Cc (uAi mayCc (uAi newYCc (uAi wideCc (uAi tlistCc (uAq))))))) rfl fuNStep
abbrev fuOZ := qReHt5 × qReH4
noncomputable def fuOT : Tel qReHt5 := .cons 0 (.lst Ei16) (.cons 1 (.lst Ec) (.cons 2 (.ptr 0) (.ji 3 (.nil))))
noncomputable def fuOBl : BTel qReH4 := .cons qReHr0 (.cons (.rows Eu64 89) (.cons (.rows Ei16 27) (.cons (.spare) (.nil))))
noncomputable def fuORes (R0 : fuOZ → qReH6 → (Unit) → Prop) : List (Res fuOZ) := [⟨(List Near) × Int × Unit, Unit, .cons 0 (.lst En) (.ji 1 (.nil)), .nil, R0⟩]
abbrev zfuO (q : List Int) (l : List Cd) (k d r c : Int) (t a : Nat × Nat) (x T A : List Int) : fuOZ := ((q, l, (), k, ()), (d, r, c, t, a, x, ()), T, A, (), ())
theorem fuOFn (q : List Int) (l : List Cd) (k d r c : Int) (t a : Nat × Nat) (x T A : List Int) (R0 : fuOZ → qReH6 → (Unit) → Prop) : (uA2 PP (runW PP qReHk0 200) 10 (fuOT.cells id (q, l, (), k, ())) (stL true (fuOBl.obs id ((d, r, c, t, a, x, ()), T, A, (), ()))) (fun v st => uA1 0 (zfuO q l k d r c t a x T A) v st (fuORes R0))) = ( ∃ l_1, Wv Ei16 q l_1 ∧ true = true ∧ chk2Pre ((l_1, Int.ofNat q.length, ()), ()) ∧ (∀ c_1 d_1, chk2R0 ((l_1, Int.ofNat q.length, ()), ()) c_1 d_1 → ifp (!uAf 0 k) (∃ (l_2 : List Near), Wk AV.nilSlice (lst En l_2) ∧ true = true ∧ R0 (zfuO q l k d r c t a x T A) (l_2, 2, ()) ()) (ifp (!uAf k 16777216) (∃ (l_2 : List Near), Wk AV.nilSlice (lst En l_2) ∧ true = true ∧ R0 (zfuO q l k d r c t a x T A) (l_2, 2, ()) ()) (∃ l_2, Wv Ec l l_2 ∧ mayPre (l_2, ()) ∧ ifp (l_2.all mayC) (ifp (uA0 k 0) (∃ (l_3 : List Near), Wk AV.nilSlice (lst En l_3) ∧ true = true ∧ R0 (zfuO q l k d r c t a x T A) (l_3, 0, ()) ()) (true = true ∧ newYPre ((k, ()), ()) ∧ (∀ c_2 d_2, newYR0 ((k, ()), ()) c_2 d_2 → ∃ l_3, Wv Ei16 q l_3 ∧ widePre (l_3, ()) ∧ uAs PP 10 59 (uAd PP 10 7).loop fuLC ∧ True ∧ True ∧ ((∃ l_4, Wv Ec l l_4 ∧ ∃ l, Ow Ei64 x l 1 ∧ ∃ l, Sa Eu64 T l ∧ ∃ l, Sa Ei16 A l ∧ ∃ l, Wv Ei32 (uAv l_3) l ∧ False) ∨ (∃ l_4, Wv Ec l l_4 ∧ ∃ l_5, Ow Ei64 x l_5 1 ∧ ∃ l_6, Sa Eu64 T l_6 ∧ ∃ l_7, Sa Ei16 A l_7 ∧ ∃ l_8, Wv Ei32 (uAv l_3) l_8 ∧ true = true ∧ fuLInv (((), (), (), l_4, Int.ofNat l.length, 0, ()), (d, r, c, t, a, l_5, ()), l_6, l_7, (), ((), ()), (l_8, ()), (d_2.1.1, (0, 0), ()), [], ()) ∧ (∀ c_3 d_3, fuLR0 (((), (), (), l_4, Int.ofNat l.length, 0, ()), (d, r, c, t, a, l_5, ()), l_6, l_7, (), ((), ()), (l_8, ()), (d_2.1.1, (0, 0), ()), [], ()) c_3 d_3 → (∃ l_9, Sa En d_3.2.2.2.2.2.1 l_9 ∧ true = true ∧ list1Pre (((), ()), (d_3.2.2.2.2.1.1, d_3.2.2.2.2.1.2.1, ()), l_9, ()) ∧ (∀ c_4 d_4, list1R0 (((), ()), (d_3.2.2.2.2.1.1, d_3.2.2.2.2.1.2.1, ()), l_9, ()) c_4 d_4 → ∃ l_10, Wv En c_4.1 l_10 ∧ true = true ∧ R0 (zfuO q l k d r c t a x T A) (l_10, 0, ()) ()) ∧ True) ∨ False) ∧ (∀ c_3 d_3, fuLR1 (((), (), (), l_4, Int.ofNat l.length, 0, ()), (d, r, c, t, a, l_5, ()), l_6, l_7, (), ((), ()), (l_8, ()), (d_2.1.1, (0, 0), ()), [], ()) c_3 d_3 → False ∨ true = true ∧ list0Pre (((), ()), (d_3.2.2.2.2.1.1, (), ()), ()) ∧ (∀ c_4 d_4, list0R0 (((), ()), (d_3.2.2.2.2.1.1, (), ()), ()) c_4 d_4 → ∃ l_9, Wv En c_4.1 l_9 ∧ true = true ∧ R0 (zfuO q l k d r c t a x T A) (l_9, 0, ()) ()) ∧ True) ∧ (∀ c_3 d_3, fuLR2 (((), (), (), l_4, Int.ofNat l.length, 0, ()), (d, r, c, t, a, l_5, ()), l_6, l_7, (), ((), ()), (l_8, ()), (d_2.1.1, (0, 0), ()), [], ()) c_3 d_3 → False ∨ true = true ∧ list0Pre (((), ()), (d_3.2.2.2.1.1, (), ()), ()) ∧ (∀ c_4 d_4, list0R0 (((), ()), (d_3.2.2.2.1.1, (), ()), ()) c_4 d_4 → ∃ l_9, Wv En c_4.1 l_9 ∧ true = true ∧ R0 (zfuO q l k d r c t a x T A) (l_9, 0, ()) ()) ∧ True) ∧ (∀ c_3 d_3, fuLR3 (((), (), (), l_4, Int.ofNat l.length, 0, ()), (d, r, c, t, a, l_5, ()), l_6, l_7, (), ((), ()), (l_8, ()), (d_2.1.1, (0, 0), ()), [], ()) c_3 d_3 → ∃ (l_9 : List Near), Wk AV.nilSlice (lst En l_9) ∧ true = true ∧ R0 (zfuO q l k d r c t a x T A) (l_9, c_3.2.1, ()) ()) ∧ (∀ (c_3 : Unit × Int × Unit) (d_3 : qReHt1 × List Int × List Int × Unit), (d_3.1.1 = d ∧ d_3.1.2.1 = r ∧ d_3.1.2.2.1 = c ∧ d_3.1.2.2.2.1 = t ∧ d_3.1.2.2.2.2.1 = a ∧ d_3.2.1 = l_6 ∧ d_3.2.2.1 = l_7 ∧ ∀ (V : List (List Int)) (L : List Near), SlOk d r c t a l_6 l_7 V → TopOk d_2.1.1 [] L → fuF l_8 V d_2.1.1 l_4 L = ([], c_3.2.1)) → ∃ (l_9 : List Near), Wk AV.nilSlice (lst En l_9) ∧ true = true ∧ R0 (zfuO q l k d r c t a x T A) (l_9, c_3.2.1, ()) ()) ∧ True) ∨ ∃ l_4, Wv Ec l l_4 ∧ False)) ∧ True)) (∃ (l_3 : List Near), Wk AV.nilSlice (lst En l_3) ∧ true = true ∧ R0 (zfuO q l k d r c t a x T A) (l_3, 2, ()) ())))) ∧ (∀ c_1 d_1, chk2R1 ((l_1, Int.ofNat q.length, ()), ()) c_1 d_1 → ∃ (l_2 : List Near), Wk AV.nilSlice (lst En l_2) ∧ true = true ∧ R0 (zfuO q l k d r c t a x T A) (l_2, Int.ofNat 2, ()) ()) ∧ True) := by kernel_rfl
def fuOPre : fuOZ → Prop := fun ((q, l, (), k, ()), (d, r, c, t, a, x, ()), T, A, (), ()) => q.length ≤ 2000 ∧ l.length ≤ 60 ∧ (∀ u ∈ l, u.2.2.2.1 < 9223372036854775808) ∧ (∃ V, SlOk d r c t a T A V) ∧ x.length ≤ 999000
def fuOR0 : fuOZ → qReH6 → (Unit) → Prop := fun ((q, l, (), k, ()), (d, r, c, t, a, x, ()), T, A, (), ()) (y, e, _) _ => ∀ V, SlOk d r c t a T A V → (y, e) = fuV q l V k
noncomputable def fuOK : uA6 := uD4 0 fuOT fuOBl fuOPre (fuORes fuOR0)
theorem fuOStep (z : fuOZ) (hp : fuOPre z) : uA2 PP (runW PP qReHk0 200) 10 (fuOT.cells id z.1) (stL true (fuOBl.obs id z.2)) (fun v st => uA1 0 z v st (fuORes fuOR0)) := by
 obtain ⟨⟨q, l, _, k, _⟩, ⟨⟨d, r, c, t, a, x, _⟩, T, A, _, _⟩⟩ := z
 refine (fuOFn q l k d r c t a x T A _).mpr ?_
 obtain ⟨hq, hl, hs, hV0, hx⟩ := hp
 have NO : ∀ e : Int, e = chkE q l k → (e ≠ 0 ∨ k = 0) → ∀ V, SlOk d r c t a T A V → (([] : List Near), e) = fuV q l V k := fun e h1 h2 V _ => by rw [fuV, if_pos (by rw [← h1]; exact h2), h1]
 refine ⟨q, Wk.refl _, rfl, trivial, fun c0 d0 h0 => ?_, fun c0 d0 h0 => ?_, trivial⟩
 case refine_2 =>
  have h0' : vchk q q.length = 2 := h0
  have hc2 : chkE q l k = 2 := by rw [chkE, h0']; rfl
  exact ⟨[], uBz En, rfl, NO _ (hc2.symm) (Or.inl (by decide))⟩
 case refine_1 =>
  have h0' : vchk q q.length = 0 := h0
  have hcE : chkE q l k = if k < 0 ∨ 16777216 < k ∨ l.all mayC = false then 2 else 0 := by rw [chkE, if_neg (by rw [h0']; simp)]
  rw [uAe]
  split
  ·rename_i h1
   have hc2 : chkE q l k = 2 := by rw [hcE, if_pos (Or.inl h1)]
   exact ⟨[], uBz En, rfl, NO _ (hc2.symm) (Or.inl (by decide))⟩
  ·rename_i h1
   rw [uAe]
   split
   ·rename_i h2
    have hc2 : chkE q l k = 2 := by rw [hcE, if_pos (Or.inr (Or.inl h2))]
    exact ⟨[], uBz En, rfl, NO _ (hc2.symm) (Or.inl (by decide))⟩
   ·rename_i h2
    refine ⟨l, Wk.refl _, by show l.length < _; omega, ?_⟩
    cases hm : l.all mayC with
    | false =>
     rw [uDn rfl]
     have hc2 : chkE q l k = 2 := by rw [hcE, if_pos (Or.inr (Or.inr hm))]
     exact ⟨[], uBz En, rfl, NO _ (hc2.symm) (Or.inl (by decide))⟩
    | true =>
     rw [uAj rfl, uCz]
     have hce : chkE q l k = 0 := by rw [hcE, if_neg (by rw [hm]; simp; omega)]
     split
     ·rename_i h3
      exact ⟨[], uBz En, rfl, NO _ (hce.symm) (Or.inr h3)⟩
     ·rename_i hk
      have k0 : 0 ≤ k := by omega
      have k1 : k ≤ 16777216 := by omega
      have EX : ∀ V, fuV q l V k = fuF (uAv q) V k l [] := fun V => by rw [fuV, if_neg (by rw [hce]; rintro (h9 | h9); exact h9 rfl; exact hk h9)]
      obtain ⟨V0, hV0⟩ := hV0
      refine ⟨rfl, ⟨k0, k1⟩, fun c1 d1 h1 => ?_, trivial⟩
      obtain ⟨⟨k1, _, _⟩, _⟩ := d1
      obtain rfl : k = k1 := Eq.symm h1
      have kp : 0 < k := by omega
      refine ⟨q, Wk.refl _, by show q.length ≤ 1000000; omega, fuLOk, trivial, trivial, ?_⟩
      refine Or.inr (Or.inl ⟨l, Wk.refl _, x, ⟨WkL.refl _, rfl, rfl⟩, T, rfl, A, rfl, uAv q, Wk.refl _, rfl, ⟨0, V0, [], rfl, rfl, Nat.zero_le _, by omega, fun u hu => hs u hu, hV0, kp, rfl, TopOk.none (Int.le_of_lt kp), Nat.zero_le _, by show x.length ≤ _; omega⟩, fun cc dd hh => ?_, fun cc dd hh => ?_, fun cc dd hh => ?_, fun cc dd hh => ?_, fun cc dd hh => ?_, trivial⟩)
      ·skip
       obtain ⟨_, T2, A2, _, ⟨k2, h2, _⟩, m2, _⟩ := dd
       obtain ⟨_, _, _, _, _, _, _, _, gk, gh, gm, gE⟩ := hh
       refine Or.inl ⟨m2, rfl, rfl, ⟨gh, by show m2.length ≤ _; omega⟩, fun c3 d3 h3 => ?_, trivial⟩
       obtain ⟨o3, _⟩ := c3
       obtain ⟨_, _⟩ := d3
       obtain ⟨ho, _⟩ := h3
       obtain rfl : o3 = uBq m2 := ho
       exact ⟨uBq m2, Wk.refl _, rfl, fun V hV => by
        obtain ⟨L2, y1, y2⟩ := gE V [] hV (TopOk.none (Int.le_of_lt kp))
        rw [EX]
        have y3 : fuF (uAv q) V k l [] = (L2, 0) := y2
        rw [y3, y1.list]⟩
      ·skip
       obtain ⟨_, _, _, _, _, _, _, _, gE⟩ := hh
       refine Or.inr ⟨rfl, trivial, fun c3 d3 h3 => ?_, trivial⟩
       obtain ⟨o3, _⟩ := c3
       obtain ⟨_, _⟩ := d3
       obtain ⟨ho, _⟩ := h3
       obtain rfl : o3 = [] := ho
       exact ⟨[], Wk.refl _, rfl, fun V hV => by rw [EX]; exact (gE V [] hV (TopOk.none (Int.le_of_lt kp))).symm⟩
      ·skip
       obtain ⟨_, _, _, _, _, _, _, gE⟩ := hh
       refine Or.inr ⟨rfl, trivial, fun c3 d3 h3 => ?_, trivial⟩
       obtain ⟨o3, _⟩ := c3
       obtain ⟨_, _⟩ := d3
       obtain ⟨ho, _⟩ := h3
       obtain rfl : o3 = [] := ho
       exact ⟨[], Wk.refl _, rfl, fun V hV => by rw [EX]; exact (gE V [] hV (TopOk.none (Int.le_of_lt kp))).symm⟩
      ·skip
       obtain ⟨_, _, _, _, _, _, _, _, gE⟩ := hh
       exact ⟨[], uBz En, rfl, fun V hV => by rw [EX]; exact (gE V [] hV (TopOk.none (Int.le_of_lt kp))).symm⟩
      ·skip
       obtain ⟨_, _, _, _, _, _, _, gE⟩ := hh
       exact ⟨[], uBz En, rfl, fun V hV => by rw [EX]; exact (gE V [] hV (TopOk.none (Int.le_of_lt kp))).symm⟩
theorem fuOCc : CcOk PP 10 fuOK := uB4 mixed (uDp (uAi chk2Cc (uAi mayCc (uAi newYCc (uAi wideCc (uAi tlistCc (uAq))))))) rfl fuOStep
end Go.Proofs.YteehkdejkemnmacDoor
namespace Go.Proofs.YteehkdejkemnmacDoor
open Go.Det Go.RowKit
set_option maxRecDepth 100000
noncomputable def own16T : Tel ((List Int) × Unit) := .cons 0 (.lst Ei16) (.nil)
theorem own16Fn (l : List Int) (Q : AV → Prop) : (uA2 PP (runW PP (KL [] []) 200) 19 (own16T.cells id (l, ())) (stE true) (fun x st => frzW st x Q)) = ( (l.flatMap Ei16.f).length = l.length.mul 1 ∧ ifp (uAm (l.flatMap Ei16.f) && true) (ifp (roomy (Nat.add 0 l.length) 2) (Q (AV.vs ([] ++ l.flatMap Ei16.f) (Nat.add 0 l.length) (Nat.add 0 l.length) false (some 1) 1)) False) False) := by kernel_rfl
def own16Pre : (List Int) × Unit → Prop := fun (l, ()) => l.length ≤ 1000000
noncomputable def own16Res : (List Int) × Unit → AV := fun (l, ()) => lst Ei16 l
noncomputable def own16K : uA6 := valC own16T own16Pre own16Res
theorem own16Val (l : List Int) (hp : own16Pre (l, ())) : Val PP 19 (own16T.cells id (l, ())) (own16Res (l, ())) := by
 refine Val.ofF mixed (uC8 (uAq)) (uDa rfl _) (own16Fn l) ?_
 have hp' : l.length ≤ 1000000 := hp
 refine ⟨Enc.flen Ei16 l, ?_⟩
 rw [uAj (by rw [Enc.fscal Ei16]; rfl), uAj (uAg (by simp only [Nat.add_eq]; omega) (by decide))]
 exact tells_lst ⟨rfl, by show 0 + l.length = _; omega, rfl⟩
theorem own16Cc : CcOk PP 19 own16K := uC2 rfl (fun ⟨l, _⟩ h => own16Val l h)
abbrev qRePt7 := (List (List Int)) × Int × Int × Unit
abbrev lt16Z := qRePt7 × (Unit)
noncomputable def lt16Sl : Tel qRePt7 := .cons 0 (.lst Evl) (.ji 2 (.ji 7 (.nil)))
noncomputable def lt16Bl : BTel (Unit) := .nil
noncomputable def lt16Fs : List (LForm lt16Z) := [⟨_, _, lt16Sl, lt16Bl, fun x y => (x, y)⟩]
noncomputable def lt16Alts (R0 : lt16Z → (Unit) → (Unit) → Prop) (R1 : lt16Z → (Bool × Unit) → (Unit) → Prop) : List (Alt lt16Z) := [⟨.exit 0, Unit, Unit, .nil, .nil, R0⟩, ⟨.ret, Bool × Unit, Unit, .cons 6 (.bool) (.nil), .nil, R1⟩]
theorem lt16Form (l : List (List Int)) (n i : Int) (N : lt16Z → Prop) (R0 : lt16Z → (Unit) → (Unit) → Prop) (R1 : lt16Z → (Bool × Unit) → (Unit) → Prop) : ((runW PP (KL [] []) 100).code none 5 25 (uAd PP 5 4) (mkT (lt16Sl.av id (l, n, i, ()))) [] (stL false (lt16Bl.obs id ())) (uCh 0 lt16Fs (lt16Alts R0 R1) ((l, n, i, ()), ()) N)) = ( ifp (!uAf (Int.ofNat l.length) i) (uAp i l.length ∧ ∃ l' n_1 c x w e, nth ((uAc i).mul 1) (l.flatMap Evl.f) = some (AV.vs l' n_1 c x w e) ∧ ifp (!uAf (Int.ofNat n_1) n) (True ∧ true = true ∧ R1 ((l, n, i, ()), ()) (false, ()) ()) (True ∧ ∃ l_1, Wv Evl l l_1 ∧ true = true ∧ N ((l_1, n, uAa .i64 (i.add 1), ()), ()))) (True ∧ true = true ∧ R0 ((l, n, i, ()), ()) () ())) := by kernel_rfl
def lt16Inv : lt16Z → Prop := fun ((l, n, i, ()), ()) => ∃ k : Nat, i = k ∧ k ≤ l.length ∧ l.length < 9223372036854775807 ∧ (l.take k).all (fun v => decide ((v.length : Int) ≤ n)) = true
def lt16Mu : lt16Z → Nat := fun ((l, n, i, ()), ()) => l.length - i.toNat
def lt16R0 : lt16Z → (Unit) → (Unit) → Prop := fun ((l, n, i, ()), ()) _ _ => l.all (fun v => decide ((v.length : Int) ≤ n)) = true
def lt16R1 : lt16Z → (Bool × Unit) → (Unit) → Prop := fun ((l, n, i, ()), ()) ⟨r, _⟩ _ => r = false ∧ l.all (fun v => decide ((v.length : Int) ≤ n)) = false
noncomputable def lt16C : uB5 := uC9 0 lt16Fs (lt16Alts lt16R0 lt16R1) lt16Inv
theorem lt16Step : uA3 PP (KL [] []) 100 5 25 (uAd PP 5 4) 0 false lt16Fs (lt16Alts lt16R0 lt16R1) lt16Inv lt16Mu ⟨_, _, lt16Sl, lt16Bl, fun x y => (x, y)⟩ := by
 intro x y hz
 obtain ⟨l, n, i, _⟩ := x
 obtain _ := y
 refine (lt16Form l n i _ _ _).mpr ?_
 obtain ⟨k, rfl, hk, hl, ht⟩ := hz
 rw [uAe]
 simp only [uAt]
 split
 ·rename_i h
  have hkl : k < l.length := by simpa using h
  repeat first | refine ⟨Nat.le_refl _, ?_⟩ | rw [uAj (uAg (by simp only [Nat.add_eq]; omega) (by decide))] | refine ⟨trivial, ?_⟩ | refine ⟨(rfl : true = true), ?_⟩ | refine ⟨uAk (by omega), ?_⟩ | refine ⟨uA8 (by omega), ?_⟩ | refine ⟨_, uBa (by omega), ?_⟩ | refine ⟨_, _, _, _, _, _, uA4 (by omega), ?_⟩ | refine ⟨_, _, _, _, _, _, nth_lst0 (by omega), ?_⟩ | refine ⟨_, Wk.refl _, ?_⟩ | rw [uAj rfl]
  rw [uAe]
  split
  ·rename_i h2
   repeat first | refine ⟨Nat.le_refl _, ?_⟩ | rw [uAj (uAg (by simp only [Nat.add_eq]; omega) (by decide))] | refine ⟨trivial, ?_⟩ | refine ⟨(rfl : true = true), ?_⟩ | refine ⟨uAk (by omega), ?_⟩ | refine ⟨uA8 (by omega), ?_⟩ | refine ⟨_, uBa (by omega), ?_⟩ | refine ⟨_, _, _, _, _, _, uA4 (by omega), ?_⟩ | refine ⟨_, _, _, _, _, _, nth_lst0 (by omega), ?_⟩ | refine ⟨_, Wk.refl _, ?_⟩ | rw [uAj rfl]
   exact ⟨rfl, all_of_get hkl (decide_eq_false (by simp at h2; omega))⟩
  ·rename_i h2
   repeat first | refine ⟨Nat.le_refl _, ?_⟩ | rw [uAj (uAg (by simp only [Nat.add_eq]; omega) (by decide))] | refine ⟨trivial, ?_⟩ | refine ⟨(rfl : true = true), ?_⟩ | refine ⟨uAk (by omega), ?_⟩ | refine ⟨uA8 (by omega), ?_⟩ | refine ⟨_, uBa (by omega), ?_⟩ | refine ⟨_, _, _, _, _, _, uA4 (by omega), ?_⟩ | refine ⟨_, _, _, _, _, _, nth_lst0 (by omega), ?_⟩ | refine ⟨_, Wk.refl _, ?_⟩ | rw [uAj rfl]
   rw [uCb (by omega)]
   refine ⟨⟨k + 1, rfl, hkl, hl, ?_⟩, ?_, fun _ _ h => h, fun _ _ h => h, trivial⟩
   ·rw [all_take_succ hkl, ht]; simp at h2 ⊢; omega
   ·show l.length - (k + 1) < l.length - k; omega
 ·rename_i h
  repeat first | refine ⟨Nat.le_refl _, ?_⟩ | rw [uAj (uAg (by simp only [Nat.add_eq]; omega) (by decide))] | refine ⟨trivial, ?_⟩ | refine ⟨(rfl : true = true), ?_⟩ | refine ⟨uAk (by omega), ?_⟩ | refine ⟨uA8 (by omega), ?_⟩ | refine ⟨_, uBa (by omega), ?_⟩ | refine ⟨_, _, _, _, _, _, uA4 (by omega), ?_⟩ | refine ⟨_, _, _, _, _, _, nth_lst0 (by omega), ?_⟩ | refine ⟨_, Wk.refl _, ?_⟩ | rw [uAj rfl]
  rw [take_all (by simpa using h)] at ht; exact ht
theorem lt16Ok : uAs PP 5 25 (.loop (uAd PP 5 4)) (lt16C) := uBf lt16Mu  mixed (uC8 (uAq)) rfl (uAo lt16Step (uAx))
noncomputable def light16T : Tel qRePt7 := .cons 0 (.lst Evl) (.ji 1 (.ji 2 (.nil)))
theorem light16Fn (l : List (List Int)) (m n : Int) (Q : AV → Prop) : (uA2 PP (runW PP (KL [] [(5, [(4, lt16C)])]) 200) 5 (light16T.cells id (l, m, n, ())) (stE false) (fun x st => frzW st x Q)) = ( ifp (!uAf (Int.ofNat l.length) m) (Q (AV.bool false)) (uAs PP 5 25 (uAd PP 5 4).loop lt16C ∧ True ∧ True ∧ ∃ l_1, Wv Evl l l_1 ∧ true = true ∧ lt16Inv ((l_1, n, 0, ()), ()) ∧ (∀ (c d : Unit), lt16R0 ((l_1, n, 0, ()), ()) c d → Q (AV.bool true)) ∧ (∀ c d, lt16R1 ((l_1, n, 0, ()), ()) c d → Q (AV.bool c.1)) ∧ True)) := by kernel_rfl
def light16Pre : (List (List Int)) × Int × Int × Unit → Prop := fun (l, m, n, ()) => m < 9223372036854775807
noncomputable def light16Res : (List (List Int)) × Int × Int × Unit → AV := fun (l, m, n, ()) => .bool (lightV l m n)
noncomputable def light16K : uA6 := valC light16T light16Pre light16Res
theorem light16Val (l : List (List Int)) (m : Int) (n : Int) (hp : light16Pre (l, m, n, ())) : Val PP 5 (light16T.cells id (l, m, n, ())) (light16Res (l, m, n, ())) := by
 refine Val.ofF mixed (uC8 (uAq)) (uDa rfl _) (light16Fn l m n) ?_
 have hp0 : m < 9223372036854775807 := hp
 rw [uAe]
 split
 ·rename_i h
  exact uBk (by simp at h; simp [lightV]; omega)
 ·rename_i h
  refine ⟨lt16Ok, ?_⟩
  have hp' : l.length < 9223372036854775807 := by simp only [Int.not_lt, Int.ofNat_eq_natCast] at h; omega
  repeat first | refine ⟨Nat.le_refl _, ?_⟩ | rw [uAj (uAg (by simp only [Nat.add_eq]; omega) (by decide))] | refine ⟨trivial, ?_⟩ | refine ⟨(rfl : true = true), ?_⟩ | refine ⟨uAk (by omega), ?_⟩ | refine ⟨uA8 (by omega), ?_⟩ | refine ⟨_, uBa (by omega), ?_⟩ | refine ⟨_, _, _, _, _, _, uA4 (by omega), ?_⟩ | refine ⟨_, _, _, _, _, _, nth_lst0 (by omega), ?_⟩ | refine ⟨_, Wk.refl _, ?_⟩ | rw [uAj rfl]
  refine ⟨⟨0, rfl, by omega, hp', by simp⟩, fun _ _ hr => ?_, fun c _ hr => ?_, trivial⟩
  ·exact uBk (by simp at h; have hr' : l.all (fun v => decide ((v.length : Int) ≤ n)) = true := hr; simp only [lightV, hr']; simp; omega)
  ·obtain ⟨r, _⟩ := c
   obtain ⟨rfl, hr'⟩ := hr
   exact uBk (by simp only [lightV, hr', Bool.and_false])
theorem light16Cc : CcOk PP 5 light16K := uC2 rfl (fun ⟨l, ⟨m, ⟨n, _⟩⟩⟩ h => light16Val l m n h)
abbrev snewZ := (Int × Int × Unit) × (Unit)
noncomputable def snewT : Tel (Int × Int × Unit) := .ji 0 (.ji 1 (.nil))
noncomputable def snewBl : BTel (Unit) := .nil
abbrev qReP0 := Unit × Int × Unit
abbrev qRePt1 := Int × Int × Int × Unit × Unit × Unit × Unit
abbrev qReP1 := qRePt1 × Unit
noncomputable abbrev qRePr1 := Bk.row (.ji 0 (.ji 1 (.ji 2 (.cons 3 (.nilS) (.cons 4 (.nilS) (.cons 5 (.nilS) (.nil)))))))
noncomputable def snewRes (R0 : snewZ → qReP0 → (Unit) → Prop) (R1 : snewZ → qReP0 → qReP1 → Prop) : List (Res snewZ) := [⟨Unit × Int × Unit, Unit, .cons 0 (.con (.nilPtr) rfl) (.ji 1 (.nil)), .nil, R0⟩, ⟨Unit × Int × Unit, qReP1, .cons 0 (.ptr 0) (.ji 1 (.nil)), .cons qRePr1 (.nil), R1⟩]
theorem snewFn (u w : Int) (R0 : snewZ → qReP0 → (Unit) → Prop) (R1 : snewZ → qReP0 → qReP1 → Prop) : (uA2 PP (runW PP (KL [] []) 200) 15 (snewT.cells id (u, w, ())) (stL false (snewBl.obs id ())) (fun v st => uA1 0 ((u, w, ()), ()) v st (snewRes R0 R1))) = ( ifp (!uAf 1 u) (AV.nilPtr = AV.nilPtr ∧ true = true ∧ R0 ((u, w, ()), ()) ((), 2, ()) () ∨ False) (ifp (!uAf u 1024) (AV.nilPtr = AV.nilPtr ∧ true = true ∧ R0 ((u, w, ()), ()) ((), 2, ()) () ∨ False) (ifp (!uAf 1 w) (AV.nilPtr = AV.nilPtr ∧ true = true ∧ R0 ((u, w, ()), ()) ((), 2, ()) () ∨ False) (ifp (!uAf w 16777216) (AV.nilPtr = AV.nilPtr ∧ true = true ∧ R0 ((u, w, ()), ()) ((), 2, ()) () ∨ False) (AV.ptr 0 0 = AV.nilPtr ∧ true = true ∧ R0 ((u, w, ()), ()) ((), 0, ()) () ∨ true = true ∧ R1 ((u, w, ()), ()) ((), 0, ()) ((u, w, 0, (), (), (), ()), ())))))) := by kernel_rfl
def snewPre : snewZ → Prop := fun ((u, w, ()), ()) => w = 60
def snewR0 : snewZ → qReP0 → (Unit) → Prop := fun ((u, w, ()), ()) (_, e, _) _ => e = 2 ∧ (u < 1 ∨ 1024 < u)
def snewR1 : snewZ → qReP0 → qReP1 → Prop := fun ((u, w, ()), ()) (_, e, _) ((d2, r2, c2, _), _) => e = 0 ∧ 1 ≤ u ∧ u ≤ 1024 ∧ d2 = u ∧ r2 = 60 ∧ c2 = 0
noncomputable def snewK : uA6 := uD4 0 snewT snewBl snewPre (snewRes snewR0 snewR1)
theorem snewStep (z : snewZ) (hp : snewPre z) : uA2 PP (runW PP (KL [] []) 200) 15 (snewT.cells id z.1) (stL false (snewBl.obs id z.2)) (fun v st => uA1 0 z v st (snewRes snewR0 snewR1)) := by
 obtain ⟨⟨u, w, _⟩, _⟩ := z
 refine (snewFn u w _ _).mpr ?_
 obtain rfl : w = 60 := hp
 rw [uAe, uAe, uAe, uAe]
 split
 ·rename_i h; exact Or.inl ⟨rfl, rfl, rfl, Or.inl h⟩
 ·rename_i h
  split
  ·rename_i h2; exact Or.inl ⟨rfl, rfl, rfl, Or.inr h2⟩
  ·rename_i h2
   rw [if_neg (by decide), if_neg (by decide)]
   exact Or.inr ⟨rfl, rfl, by omega, by omega, rfl, rfl, rfl⟩
theorem snewCc : CcOk PP 15 snewK := uB4 mixed (uC8 (uAq)) rfl snewStep
abbrev rnewZ := (Int × Int × Unit) × (Unit)
noncomputable def rnewT : Tel (Int × Int × Unit) := .ji 0 (.ji 1 (.nil))
noncomputable def rnewBl : BTel (Unit) := .nil
abbrev qRePt3 := Int × Int × Unit × Unit × Unit
abbrev qReP2 := qRePt3 × Unit
noncomputable abbrev qRePr3 := Bk.row (.ji 0 (.ji 1 (.cons 2 (.nilS) (.cons 3 (.nilS) (.nil)))))
noncomputable def rnewRes (R0 : rnewZ → qReP0 → (Unit) → Prop) (R1 : rnewZ → qReP0 → qReP2 → Prop) : List (Res rnewZ) := [⟨Unit × Int × Unit, Unit, .cons 0 (.con (.nilPtr) rfl) (.ji 1 (.nil)), .nil, R0⟩, ⟨Unit × Int × Unit, qReP2, .cons 0 (.ptr 0) (.ji 1 (.nil)), .cons qRePr3 (.nil), R1⟩]
theorem rnewFn (u w : Int) (R0 : rnewZ → qReP0 → (Unit) → Prop) (R1 : rnewZ → qReP0 → qReP2 → Prop) : (uA2 PP (runW PP (KL [] []) 200) 18 (rnewT.cells id (u, w, ())) (stL false (rnewBl.obs id ())) (fun v st => uA1 0 ((u, w, ()), ()) v st (rnewRes R0 R1))) = ( ifp (!uAf 1 u) (AV.nilPtr = AV.nilPtr ∧ true = true ∧ R0 ((u, w, ()), ()) ((), 2, ()) () ∨ False) (ifp (!uAf u 1024) (AV.nilPtr = AV.nilPtr ∧ true = true ∧ R0 ((u, w, ()), ()) ((), 2, ()) () ∨ False) (ifp (!uAf 1 w) (AV.nilPtr = AV.nilPtr ∧ true = true ∧ R0 ((u, w, ()), ()) ((), 2, ()) () ∨ False) (ifp (!uAf w 16777216) (AV.nilPtr = AV.nilPtr ∧ true = true ∧ R0 ((u, w, ()), ()) ((), 2, ()) () ∨ False) (AV.ptr 0 0 = AV.nilPtr ∧ true = true ∧ R0 ((u, w, ()), ()) ((), 0, ()) () ∨ true = true ∧ R1 ((u, w, ()), ()) ((), 0, ()) ((u, w, (), (), ()), ())))))) := by kernel_rfl
def rnewPre : rnewZ → Prop := fun ((u, w, ()), ()) => w = 60
def rnewR0 : rnewZ → qReP0 → (Unit) → Prop := fun ((u, w, ()), ()) (_, e, _) _ => e = 2 ∧ (u < 1 ∨ 1024 < u)
def rnewR1 : rnewZ → qReP0 → qReP2 → Prop := fun ((u, w, ()), ()) (_, e, _) ((d2, r2, _), _) => e = 0 ∧ 1 ≤ u ∧ u ≤ 1024 ∧ d2 = u ∧ r2 = 60
noncomputable def rnewK : uA6 := uD4 0 rnewT rnewBl rnewPre (rnewRes rnewR0 rnewR1)
theorem rnewStep (z : rnewZ) (hp : rnewPre z) : uA2 PP (runW PP (KL [] []) 200) 18 (rnewT.cells id z.1) (stL false (rnewBl.obs id z.2)) (fun v st => uA1 0 z v st (rnewRes rnewR0 rnewR1)) := by
 obtain ⟨⟨u, w, _⟩, _⟩ := z
 refine (rnewFn u w _ _).mpr ?_
 obtain rfl : w = 60 := hp
 rw [uAe, uAe, uAe, uAe]
 split
 ·rename_i h; exact Or.inl ⟨rfl, rfl, rfl, Or.inl h⟩
 ·rename_i h
  split
  ·rename_i h2; exact Or.inl ⟨rfl, rfl, rfl, Or.inr h2⟩
  ·rename_i h2
   rw [if_neg (by decide), if_neg (by decide)]
   exact Or.inr ⟨rfl, rfl, by omega, by omega, rfl, rfl⟩
theorem rnewCc : CcOk PP 18 rnewK := uB4 mixed (uC8 (uAq)) rfl rnewStep
def fitV (d : Int) (V : List (List Int)) : List (List Int) := V.filter fun v => decide ((v.length : Int) = d)
theorem fit_succ {d : Int} {V : List (List Int)} {q : Nat} (h : q < V.length) : fitV d (V.take (q + 1)) = putS d (fitV d (V.take q)) V[q] := by
 rw [← List.take_append_getElem h, fitV, List.filter_append, putS]
 split
 ·rename_i h9; rw [List.filter_cons_of_pos (by simpa using h9)]; rfl
 ·rename_i h9; rw [List.filter_cons_of_neg (by simpa using h9)]; simp [fitV]
theorem fit_len (d : Int) (V : List (List Int)) : (fitV d V).length ≤ V.length := List.length_filter_le _ _
theorem fit_all {d : Int} {V : List (List Int)} (h : ∀ v ∈ V, (v.length : Int) = d) : fitV d V = V := List.filter_eq_self.2 fun v hv => by simpa using h v hv
noncomputable def putK (gl : Tr (List AV)) : uA6 := orC (put1K gl) put0K
theorem putCc {gl : Tr (List AV)} (hg : GlOk gl) : CcOk PP 16 (putK gl) := orC_ok (put1Cc hg) put0Cc
noncomputable def rputK : uA6 := orC rput1K rput0K
theorem rputCc : CcOk PP 20 rputK := orC_ok rput1Cc rput0Cc
abbrev qRePt8 := Int × Int × Int × (Nat × Nat) × (Nat × Nat) × Unit × Unit
abbrev qRePt0 := qRePt8 × (List Int) × (List Int) × (Int × Int × (Nat × Nat) × Unit × Unit) × (List (List Int)) × Unit
abbrev qRePt2 := (List (List Int)) × Unit × Unit × Int × Unit
abbrev putLZ := (qRePt2 × qRePt0) × Bool
noncomputable def putLSl : Tel qRePt2 := .cons 1 (.lst Evl) (.cons 6 (.ptr 0) (.cons 8 (.ptr 3) (.ji 10 (.nil))))
noncomputable abbrev qRePr0 := Bk.row (.ji 0 (.ji 1 (.ji 2 (.cons 3 (.slq 1 1) (.cons 4 (.slq 2 1) (.cons 5 (.nilS) (.nil)))))))
noncomputable abbrev qRePr2 := Bk.row (.ji 0 (.ji 1 (.cons 2 (.slq 4 1) (.cons 3 (.nilS) (.nil)))))
noncomputable def putLBl : BTel qRePt0 := .cons qRePr0 (.cons (.rows Eu64 89) (.cons (.rows Ei16 27) (.cons qRePr2 (.cons (.rowsW Evl 23) (.nil)))))
noncomputable def putLSl0 : Tel qRePt2 := .cons 1 (.lst Evl) (.cons 6 (.ptr 0) (.cons 8 (.ptr 1) (.ji 10 (.nil))))
noncomputable def putLBl0 : BTel (qRePt1 × qRePt3 × Unit) := .cons qRePr1 (.cons qRePr3 (.nil))
noncomputable def putLZ0 : qRePt2 → (qRePt1 × qRePt3 × Unit) → putLZ := fun (V, (), (), i, ()) ((d, r, c, (), (), (), ()), (D, R, (), (), ()), ()) => (((V, (), (), i, ()), (d, r, c, (0, 0), (0, 0), (), ()), [], [], (D, R, (0, 0), (), ()), [], ()), false)
noncomputable def putLFs : List (LForm putLZ) := [⟨_, _, putLSl, putLBl, fun x y => ((x, y), true)⟩, ⟨_, _, putLSl0, putLBl0, putLZ0⟩]
abbrev qReP3 := Unit × Unit × Unit
abbrev qReP4 := qRePt8 × (List Int) × (List Int) × (Int × Int × (Nat × Nat) × Unit × Unit) × (List (List Int)) × Unit
abbrev qReP5 := qRePt1 × qRePt3 × Unit
noncomputable def putLAlts (R0 : putLZ → qReP3 → qReP4 → Prop) (R1 : putLZ → qReP3 → qReP5 → Prop) : List (Alt putLZ) := [⟨.exit 0, qReP3, qReP4, .cons 6 (.ptr 0) (.cons 8 (.ptr 3) (.nil)), .cons qRePr0 (.cons (.rows Eu64 89) (.cons (.rows Ei16 27) (.cons qRePr2 (.cons (.rowsW Evl 23) (.nil))))), R0⟩, ⟨.exit 0, qReP3, qReP5, .cons 6 (.ptr 0) (.cons 8 (.ptr 1) (.nil)), .cons qRePr1 (.cons qRePr3 (.nil)), R1⟩]
theorem putLForm (gl : Tr (List AV)) (V : List (List Int)) (i d r c : Int) (t a : Nat × Nat) (T A : List Int) (D R : Int) (g : Nat × Nat) (W : List (List Int)) (N : putLZ → Prop) (R0 : putLZ → qReP3 → qReP4 → Prop) (R1 : putLZ → qReP3 → qReP5 → Prop) : ((runW PP (KLX [(19, own16K), (16, putK gl), (20, rputK)] [] [89, 27, 23] [] []) 100).code none 6 48 (uAd PP 6 6) (mkT (putLSl.av id (V, (), (), i, ()))) [] (stL true (putLBl.obs id ((d, r, c, t, a, (), ()), T, A, (D, R, g, (), ()), W, ())) gl (fun u => hasT u [23])) (uCh 1 putLFs (putLAlts R0 R1) (((V, (), (), i, ()), (d, r, c, t, a, (), ()), T, A, (D, R, g, (), ()), W, ()), true) N)) = ( ifp (!uAf (Int.ofNat V.length) i) (uAp i V.length ∧ ∃ l' n c_1 x w e, nth ((uAc i).mul 1) (V.flatMap Evl.f) = some (AV.vs l' n c_1 x w e) ∧ ∃ (l : List Int), Wk (AV.vs l' n c_1 x w e) (lst Ei16 l) ∧ own16Pre (l, ()) ∧ ((gl = gl ∧ ∃ l_1, Wv Ei16 l l_1 ∧ ∃ l, Sa Eu64 T l ∧ ∃ l_2, Sa Ei16 A l_2 ∧ true = true ∧ put1Pre (((), l_1, ()), (d, r, c, t, a, (), ()), l, l_2, ()) ∧ (∀ c_2 d_1, put1R0 (((), l_1, ()), (d, r, c, t, a, (), ()), l, l_2, ()) c_2 d_1 → uAp i V.length ∧ ∃ l' n c x w e, nth ((uAc i).mul 1) (V.flatMap Evl.f) = some (AV.vs l' n c x w e) ∧ ((∃ (l : List Int), Wk (AV.vs l' n c x w e) (lst Ei16 l) ∧ ∃ (l_3 : List (List Int)), WkL (W.flatMap Evl.f) (l_3.flatMap Evl.f) ∧ true = true ∧ rput1Pre (((), l, ()), (D, R, g, (), ()), l_3, ()) ∧ (∀ c d, rput1R0 (((), l, ()), (D, R, g, (), ()), l_3, ()) c d → True ∧ ((∃ l, Wv Evl V l ∧ ∃ l_4, Sa Eu64 d_1.2.1 l_4 ∧ ∃ l_5, Sa Ei16 d_1.2.2.1 l_5 ∧ ∃ (l_6 : List (List Int)), WkL (List.flatMap Evl.f d.2.1) (l_6.flatMap Evl.f) ∧ true = true ∧ N (((l, (), (), uAa .i64 (i.add 1), ()), (d_1.1.1, d_1.1.2.1, d_1.1.2.2.1, d_1.1.2.2.2.1, d_1.1.2.2.2.2.1, (), ()), l_4, l_5, (d.1.1, d.1.2.1, d.1.2.2.1, (), ()), l_6, ()), true)) ∨ ∃ l, Wv Evl V l ∧ False)) ∧ True) ∨ ∃ (l : List Int), Wk (AV.vs l' n c x w e) (lst Ei16 l) ∧ False)) ∧ True) ∨ ∃ l_1, Wv Ei16 l l_1 ∧ False)) ((True ∧ ∃ l, Sa Eu64 T l ∧ ∃ l_1, Sa Ei16 A l_1 ∧ ∃ (l_2 : List (List Int)), WkL (W.flatMap Evl.f) (l_2.flatMap Evl.f) ∧ true = true ∧ R0 (((V, (), (), i, ()), (d, r, c, t, a, (), ()), T, A, (D, R, g, (), ()), W, ()), true) ((), (), ()) ((d, r, c, t, a, (), ()), l, l_1, (D, R, g, (), ()), l_2, ())) ∨ True ∧ False)) := by kernel_rfl
theorem putLForm0 (gl : Tr (List AV)) (V : List (List Int)) (i d r c D R : Int) (N : putLZ → Prop) (R0 : putLZ → qReP3 → qReP4 → Prop) (R1 : putLZ → qReP3 → qReP5 → Prop) : ((runW PP (KLX [(19, own16K), (16, putK gl), (20, rputK)] [] [89, 27, 23] [] []) 100).code none 6 48 (uAd PP 6 6) (mkT (putLSl0.av id (V, (), (), i, ()))) [] (stL true (putLBl0.obs id ((d, r, c, (), (), (), ()), (D, R, (), (), ()), ())) gl (fun u => hasT u [23])) (uCh 1 putLFs (putLAlts R0 R1) (putLZ0 (V, (), (), i, ()) ((d, r, c, (), (), (), ()), (D, R, (), (), ()), ())) N)) = ( ifp (!uAf (Int.ofNat V.length) i) (uAp i V.length ∧ ∃ l' n c_1 x w e, nth ((uAc i).mul 1) (V.flatMap Evl.f) = some (AV.vs l' n c_1 x w e) ∧ ∃ (l : List Int), Wk (AV.vs l' n c_1 x w e) (lst Ei16 l) ∧ own16Pre (l, ()) ∧ ((gl = gl ∧ ∃ l_1, Wv Ei16 l l_1 ∧ False) ∨ ∃ l_1, Wv Ei16 l l_1 ∧ true = true ∧ put0Pre (((), l_1, ()), (d, r, c, (), (), (), ()), ()) ∧ (∀ c_2 d_1, put0R0 (((), l_1, ()), (d, r, c, (), (), (), ()), ()) c_2 d_1 → uAp i V.length ∧ ∃ l' n c x w e, nth ((uAc i).mul 1) (V.flatMap Evl.f) = some (AV.vs l' n c x w e) ∧ ((∃ (l : List Int), Wk (AV.vs l' n c x w e) (lst Ei16 l) ∧ False) ∨ ∃ (l : List Int), Wk (AV.vs l' n c x w e) (lst Ei16 l) ∧ true = true ∧ rput0Pre (((), l, ()), (D, R, (), (), ()), ()) ∧ (∀ c d, rput0R0 (((), l, ()), (D, R, (), (), ()), ()) c d → True ∧ ((∃ l, Wv Evl V l ∧ False) ∨ ∃ l, Wv Evl V l ∧ true = true ∧ N (((l, (), (), uAa .i64 (i.add 1), ()), (d_1.1.1, d_1.1.2.1, d_1.1.2.2.1, (0, 0), (0, 0), (), ()), [], [], (d.1.1, d.1.2.1, (0, 0), (), ()), [], ()), false))) ∧ (∀ c d, rput0R1 (((), l, ()), (D, R, (), (), ()), ()) c d → True ∧ ((∃ l, Wv Evl V l ∧ False) ∨ ∃ l, Wv Evl V l ∧ False)) ∧ True)) ∧ (∀ c_2 d_1, put0R1 (((), l_1, ()), (d, r, c, (), (), (), ()), ()) c_2 d_1 → uAp i V.length ∧ ∃ l' n c x w e, nth ((uAc i).mul 1) (V.flatMap Evl.f) = some (AV.vs l' n c x w e) ∧ ((∃ (l : List Int), Wk (AV.vs l' n c x w e) (lst Ei16 l) ∧ False) ∨ ∃ (l : List Int), Wk (AV.vs l' n c x w e) (lst Ei16 l) ∧ true = true ∧ rput0Pre (((), l, ()), (D, R, (), (), ()), ()) ∧ (∀ c d, rput0R0 (((), l, ()), (D, R, (), (), ()), ()) c d → True ∧ ((∃ l, Wv Evl V l ∧ ∃ l, Sa Eu64 d_1.2.1 l ∧ ∃ l, Sa Ei16 d_1.2.2.1 l ∧ False) ∨ ∃ l, Wv Evl V l ∧ False)) ∧ (∀ c d, rput0R1 (((), l, ()), (D, R, (), (), ()), ()) c d → True ∧ ((∃ l, Wv Evl V l ∧ ∃ l_2, Sa Eu64 d_1.2.1 l_2 ∧ ∃ l_3, Sa Ei16 d_1.2.2.1 l_3 ∧ ∃ (l_4 : List (List Int)), WkL (List.flatMap Evl.f d.2.1) (l_4.flatMap Evl.f) ∧ true = true ∧ N (((l, (), (), uAa .i64 (i.add 1), ()), (d_1.1.1, d_1.1.2.1, d_1.1.2.2.1, d_1.1.2.2.2.1, d_1.1.2.2.2.2.1, (), ()), l_2, l_3, (d.1.1, d.1.2.1, d.1.2.2.1, (), ()), l_4, ()), true)) ∨ ∃ l, Wv Evl V l ∧ False)) ∧ True)) ∧ True)) (True ∧ False ∨ True ∧ true = true ∧ R1 (((V, (), (), i, ()), (d, r, c, (0, 0), (0, 0), (), ()), [], [], (D, R, (0, 0), (), ()), [], ()), false) ((), (), ()) ((d, r, c, (), (), (), ()), (D, R, (), (), ()), ()))) := by kernel_rfl
def putLInv : putLZ → Prop := fun (((V, (), (), i, ()), (d, r, c, t, a, (), ()), T, A, (D, R, g, (), ()), W, ()), fl) => ∃ q : Nat, i = q ∧ q ≤ V.length ∧ V.length ≤ 60 ∧ (∀ v ∈ V, v.length ≤ 1000000) ∧ 1 ≤ d ∧ d ≤ 1024 ∧ r = 60 ∧ D = d ∧ R = 60 ∧ g = (W.length, W.length) ∧ W = fitV d (V.take q) ∧ (fl = true → SlOk d r c t a T A W ∧ W ≠ []) ∧ (fl = false → c = 0 ∧ W = [])
def putLMu : putLZ → Nat := fun (((V, (), (), i, ()), (d, r, c, t, a, (), ()), T, A, (D, R, g, (), ()), W, ()), fl) => V.length - i.toNat
def putLR0 : putLZ → qReP3 → qReP4 → Prop := fun (((V, (), (), i, ()), (d, r, c, t, a, (), ()), T, A, (D, R, g, (), ()), W, ()), fl) _ ((d2, r2, c2, t2, a2, _), T2, A2, (D2, R2, g2, _), W2, _) => SlOk d r2 c2 t2 a2 T2 A2 (fitV d V) ∧ fitV d V ≠ [] ∧ d2 = d ∧ D2 = d ∧ R2 = 60 ∧ g2 = (W2.length, W2.length) ∧ W2 = fitV d V
def putLR1 : putLZ → qReP3 → qReP5 → Prop := fun (((V, (), (), i, ()), (d, r, c, t, a, (), ()), T, A, (D, R, g, (), ()), W, ()), fl) _ ((d2, r2, c2, _), (D2, R2, _), _) => fitV d V = [] ∧ d2 = d ∧ r2 = 60 ∧ c2 = 0 ∧ D2 = d ∧ R2 = 60
noncomputable def putLC (gl : Tr (List AV)) : uB5 := loopCg gl 1 putLFs (putLAlts putLR0 putLR1) putLInv
theorem putLStep {gl : Tr (List AV)} (hg : GlOk gl) : uA3 PP (KLX [(19, own16K), (16, putK gl), (20, rputK)] [] [89, 27, 23] [] []) 100 6 48 (uAd PP 6 6) 1 true putLFs (putLAlts putLR0 putLR1) putLInv putLMu ⟨_, _, putLSl, putLBl, fun x y => ((x, y), true)⟩ gl (fun u => hasT u [23]) := by
 intro x y hz
 obtain ⟨V, _, _, i, _⟩ := x
 obtain ⟨⟨d, r, c, t, a, _, _⟩, T, A, ⟨D, R, g, _, _⟩, W, _⟩ := y
 refine (putLForm gl V i d r c t a T A D R g W _ _ _).mpr ?_
 obtain ⟨q, rfl, hq, hl, hvl, hd1, hd2, rfl, hD, rfl, rfl, hW, h1, _⟩ := hz
 obtain rfl : d = D := hD.symm
 obtain ⟨hS, hW0⟩ := h1 rfl
 have hWl : W.length ≤ q := by have := fit_len d (V.take q); rw [← hW] at this; simp at this; omega
 rw [uAe]
 simp only [uAt]
 split
 ·rename_i h
  have hql : q < V.length := by simpa using h
  refine ⟨uAk hql, _, _, _, _, _, _, uA4 hql, V[q], Wk.refl _, hvl _ (List.getElem_mem hql), Or.inl ⟨(by trivial), V[q], Wk.refl _, T, rfl, A, rfl, (by trivial), ⟨W, hS, by omega, hW0⟩, fun c1 d1 hr => ?_, trivial⟩⟩
  obtain ⟨⟨d2, r2, c2, t2, a2, _, _⟩, T2, A2, _⟩ := d1
  obtain ⟨e1, hput⟩ := hr
  obtain rfl : d = d2 := e1.symm
  have hS2 := hput W hS
  refine ⟨uAk hql, _, _, _, _, _, _, uA4 hql, Or.inl ⟨V[q], Wk.refl _, W, WkL.refl _, (by trivial), ⟨hd1, hd2, rfl, rfl, by omega, fun v hv => by have := hS.v1 v hv; omega⟩, fun c3 d3 hr3 => ?_, trivial⟩⟩
  obtain ⟨⟨D3, R3, g3, _, _⟩, W3, _⟩ := d3
  obtain ⟨e1, e2, e3, e4⟩ := hr3
  obtain rfl : d = D3 := e1.symm
  obtain rfl : R3 = 60 := e2
  obtain rfl : g3 = (W3.length, W3.length) := e3
  have e4' : W3 = putS d W V[q] := e4
  refine ⟨trivial, Or.inl ⟨V, Wk.refl _, T2, rfl, A2, rfl, W3, WkL.refl _, (by trivial), ?_⟩⟩
  rw [uCb (by omega)]
  refine ⟨⟨q + 1, rfl, hql, hl, hvl, hd1, hd2, hS2.r1, rfl, rfl, rfl, by rw [fit_succ hql, e4', hW], fun _ => ⟨e4' ▸ hS2, by rw [e4', putS]; split <;> simp [hW0]⟩, fun h9 => by cases h9⟩, by show V.length - (q + 1) < V.length - q; omega, fun _ _ h => h, fun _ _ h => h, trivial⟩
 ·rename_i h
  have hql : ¬ q < V.length := by simpa using h
  have hWV : W = fitV d V := by rw [hW, List.take_of_length_le (by omega)]
  exact Or.inl ⟨trivial, T, rfl, A, rfl, W, WkL.refl _, (by trivial), hWV ▸ hS, hWV ▸ hW0, rfl, rfl, rfl, rfl, hWV⟩
theorem putLStep0 {gl : Tr (List AV)} (hg : GlOk gl) : uA3 PP (KLX [(19, own16K), (16, putK gl), (20, rputK)] [] [89, 27, 23] [] []) 100 6 48 (uAd PP 6 6) 1 true putLFs (putLAlts putLR0 putLR1) putLInv putLMu ⟨_, _, putLSl0, putLBl0, putLZ0⟩ gl (fun u => hasT u [23]) := by
 intro x y hz
 obtain ⟨V, _, _, i, _⟩ := x
 obtain ⟨⟨d, r, c, _, _, _, _⟩, ⟨D, R, _, _, _⟩, _⟩ := y
 refine (putLForm0 gl V i d r c D R _ _ _).mpr ?_
 obtain ⟨q, rfl, hq, hl, hvl, hd1, hd2, rfl, hD, rfl, hg, hW, _, h0⟩ := hz
 obtain rfl : d = D := hD.symm
 obtain ⟨rfl, _⟩ := h0 rfl
 rw [uAe]
 simp only [uAt]
 split
 ·rename_i h
  have hql : q < V.length := by simpa using h
  refine ⟨uAk hql, _, _, _, _, _, _, uA4 hql, V[q], Wk.refl _, hvl _ (List.getElem_mem hql), Or.inr ⟨V[q], Wk.refl _, (by trivial), ⟨hd1, hd2, rfl, rfl⟩, fun c1 d1 hr => ?_, fun c1 d1 hr => ?_, trivial⟩⟩
  ·obtain ⟨⟨d2, r2, c2, _, _, _, _⟩, _⟩ := d1
   obtain ⟨e1, e2, e3, hne⟩ := hr
   obtain rfl : d = d2 := e1.symm
   obtain rfl : r2 = 60 := e2
   obtain rfl : c2 = 0 := e3
   refine ⟨uAk hql, _, _, _, _, _, _, uA4 hql, Or.inr ⟨V[q], Wk.refl _, (by trivial), ⟨hd1, hd2, rfl⟩, fun c3 d3 hr3 => ?_, fun c3 d3 hr3 => ?_, trivial⟩⟩
   ·obtain ⟨⟨D3, R3, _, _, _⟩, _⟩ := d3
    obtain ⟨e1, e2, _⟩ := hr3
    obtain rfl : d = D3 := e1.symm
    obtain rfl : R3 = 60 := e2
    refine ⟨trivial, Or.inr ⟨V, Wk.refl _, (by trivial), ?_⟩⟩
    rw [uCb (by omega)]
    exact ⟨⟨q + 1, rfl, hql, hl, hvl, hd1, hd2, rfl, rfl, rfl, rfl, by rw [fit_succ hql, ← hW, putS, if_neg hne], fun h9 => (by cases h9), fun _ => ⟨rfl, rfl⟩⟩, by show V.length - (q + 1) < V.length - q; omega, fun _ _ h => h, fun _ _ h => h, trivial⟩
   ·obtain ⟨⟨D3, R3, _, _, _⟩, W3, _⟩ := d3
    obtain ⟨_, _, _, e4, _⟩ := hr3
    exact absurd e4 hne
  ·obtain ⟨⟨d2, r2, c2, t2, a2, _, _⟩, T2, A2, _⟩ := d1
   obtain ⟨e1, he, hS2⟩ := hr
   obtain rfl : d = d2 := e1.symm
   refine ⟨uAk hql, _, _, _, _, _, _, uA4 hql, Or.inr ⟨V[q], Wk.refl _, (by trivial), ⟨hd1, hd2, rfl⟩, fun c3 d3 hr3 => ?_, fun c3 d3 hr3 => ?_, trivial⟩⟩
   ·obtain ⟨⟨D3, R3, _, _, _⟩, _⟩ := d3
    obtain ⟨_, _, e4⟩ := hr3
    exact absurd he e4
   ·obtain ⟨⟨D3, R3, g3, _, _⟩, W3, _⟩ := d3
    obtain ⟨e1, e2, e3, _, e5⟩ := hr3
    obtain rfl : d = D3 := e1.symm
    obtain rfl : R3 = 60 := e2
    obtain rfl : g3 = (1, 1) := e3
    obtain rfl : W3 = [V[q]] := e5
    refine ⟨trivial, Or.inl ⟨V, Wk.refl _, T2, rfl, A2, rfl, [V[q]], WkL.refl _, (by trivial), ?_⟩⟩
    rw [uCb (by omega)]
    exact ⟨⟨q + 1, rfl, hql, hl, hvl, hd1, hd2, hS2.r1, rfl, rfl, rfl, by rw [fit_succ hql, ← hW, putS, if_pos he]; rfl, fun _ => ⟨hS2, by simp⟩, fun h9 => by cases h9⟩, by show V.length - (q + 1) < V.length - q; omega, fun _ _ h => h, fun _ _ h => h, trivial⟩
 ·rename_i h
  have hql : ¬ q < V.length := by simpa using h
  have hWV : [] = fitV d V := by rw [hW, List.take_of_length_le (by omega)]
  exact Or.inr ⟨trivial, (by trivial), hWV.symm, rfl, rfl, rfl, rfl, rfl⟩
theorem putLOk {gl : Tr (List AV)} (hg : GlOk gl) : uAs PP 6 48 (.loop (uAd PP 6 6)) (putLC gl) := loop_okg putLMu hg.fr mixed (uDp (uAi own16Cc (uAi (putCc hg) (uAi rputCc (uAq))))) rfl (uAo (putLStep hg) (uAo (putLStep0 hg) (uAx)))
abbrev putGZ := (Int × (List (List Int)) × Unit) × (Unit)
noncomputable def putGT : Tel (Int × (List (List Int)) × Unit) := .ji 0 (.cons 1 (.lst Evl) (.nil))
noncomputable def putGBl : BTel (Unit) := .nil
noncomputable def putGRes (R0 : putGZ → qReP3 → (Unit) → Prop) (R1 : putGZ → qReP3 → qReP4 → Prop) (R2 : putGZ → qReP3 → qReP5 → Prop) : List (Res putGZ) := [⟨Unit × Unit × Unit, Unit, .cons 0 (.con (.nilPtr) rfl) (.cons 1 (.con (.nilPtr) rfl) (.nil)), .nil, R0⟩, ⟨Unit × Unit × Unit, qReP4, .cons 0 (.ptr 0) (.cons 1 (.ptr 3) (.nil)), .cons qRePr0 (.cons (.rows Eu64 89) (.cons (.rows Ei16 27) (.cons qRePr2 (.cons (.rowsW Evl 23) (.nil))))), R1⟩, ⟨Unit × Unit × Unit, qReP5, .cons 0 (.ptr 0) (.cons 1 (.ptr 1) (.nil)), .cons qRePr1 (.cons qRePr3 (.nil)), R2⟩]
theorem putGFn (gl : Tr (List AV)) (d : Int) (V : List (List Int)) (R0 : putGZ → qReP3 → (Unit) → Prop) (R1 : putGZ → qReP3 → qReP4 → Prop) (R2 : putGZ → qReP3 → qReP5 → Prop) : (uA2 PP (runW PP (KLX [(15, snewK), (18, rnewK)] [(6, [(6, putLC gl)])] [89, 27, 23] [] []) 200) 6 (putGT.cells id (d, V, ())) (stL true (putGBl.obs id ()) gl (fun u => hasT u [23])) (fun v st => uA1 0 ((d, V, ()), ()) v st (putGRes R0 R1 R2))) = ( true = true ∧ snewPre ((d, 60, ()), ()) ∧ (∀ c d_1, snewR0 ((d, 60, ()), ()) c d_1 → true = true ∧ rnewPre ((d, 60, ()), ()) ∧ (∀ c_1 d_2, rnewR0 ((d, 60, ()), ()) c_1 d_2 → ifp (!uA0 c.2.1 0) (AV.nilPtr = AV.nilPtr ∧ AV.nilPtr = AV.nilPtr ∧ true = true ∧ R0 ((d, V, ()), ()) ((), (), ()) () ∨ False ∨ False) (ifp (!uA0 c_1.2.1 0) (AV.nilPtr = AV.nilPtr ∧ AV.nilPtr = AV.nilPtr ∧ true = true ∧ R0 ((d, V, ()), ()) ((), (), ()) () ∨ False ∨ False) (uAs PP 6 48 (uAd PP 6 6).loop (putLC gl) ∧ gl = gl ∧ True ∧ True ∧ ((∃ l, Wv Evl V l ∧ False) ∨ ∃ l, Wv Evl V l ∧ False)))) ∧ (∀ c_1 d_2, rnewR1 ((d, 60, ()), ()) c_1 d_2 → ifp (!uA0 c.2.1 0) (AV.nilPtr = AV.nilPtr ∧ AV.nilPtr = AV.nilPtr ∧ true = true ∧ R0 ((d, V, ()), ()) ((), (), ()) () ∨ False ∨ False) (ifp (!uA0 c_1.2.1 0) (AV.nilPtr = AV.nilPtr ∧ AV.nilPtr = AV.nilPtr ∧ true = true ∧ R0 ((d, V, ()), ()) ((), (), ()) () ∨ False ∨ False) (uAs PP 6 48 (uAd PP 6 6).loop (putLC gl) ∧ gl = gl ∧ True ∧ True ∧ ((∃ l, Wv Evl V l ∧ False) ∨ ∃ l, Wv Evl V l ∧ False)))) ∧ True) ∧ (∀ c d_1, snewR1 ((d, 60, ()), ()) c d_1 → true = true ∧ rnewPre ((d, 60, ()), ()) ∧ (∀ c_1 d_2, rnewR0 ((d, 60, ()), ()) c_1 d_2 → ifp (!uA0 c.2.1 0) (AV.nilPtr = AV.nilPtr ∧ AV.nilPtr = AV.nilPtr ∧ true = true ∧ R0 ((d, V, ()), ()) ((), (), ()) () ∨ False ∨ False) (ifp (!uA0 c_1.2.1 0) (AV.nilPtr = AV.nilPtr ∧ AV.nilPtr = AV.nilPtr ∧ true = true ∧ R0 ((d, V, ()), ()) ((), (), ()) () ∨ False ∨ False) (uAs PP 6 48 (uAd PP 6 6).loop (putLC gl) ∧ gl = gl ∧ True ∧ True ∧ ((∃ l, Wv Evl V l ∧ False) ∨ ∃ l, Wv Evl V l ∧ False)))) ∧ (∀ c_1 d_2, rnewR1 ((d, 60, ()), ()) c_1 d_2 → ifp (!uA0 c.2.1 0) (AV.nilPtr = AV.nilPtr ∧ AV.nilPtr = AV.nilPtr ∧ true = true ∧ R0 ((d, V, ()), ()) ((), (), ()) () ∨ False ∨ False) (ifp (!uA0 c_1.2.1 0) (AV.nilPtr = AV.nilPtr ∧ AV.nilPtr = AV.nilPtr ∧ true = true ∧ R0 ((d, V, ()), ()) ((), (), ()) () ∨ False ∨ False) (uAs PP 6 48 (uAd PP 6 6).loop (putLC gl) ∧ gl = gl ∧ True ∧ True ∧ ((∃ l, Wv Evl V l ∧ False) ∨ ∃ l, Wv Evl V l ∧ true = true ∧ putLInv (((l, (), (), 0, ()), (d_1.1.1, d_1.1.2.1, d_1.1.2.2.1, (0, 0), (0, 0), (), ()), [], [], (d_2.1.1, d_2.1.2.1, (0, 0), (), ()), [], ()), false) ∧ (∀ c d_3, putLR0 (((l, (), (), 0, ()), (d_1.1.1, d_1.1.2.1, d_1.1.2.2.1, (0, 0), (0, 0), (), ()), [], [], (d_2.1.1, d_2.1.2.1, (0, 0), (), ()), [], ()), false) c d_3 → AV.ptr 0 0 = AV.nilPtr ∧ AV.ptr 4 0 = AV.nilPtr ∧ true = true ∧ R0 ((d, V, ()), ()) ((), (), ()) () ∨ (∃ l, Sa Eu64 d_3.2.1 l ∧ ∃ l_1, Sa Ei16 d_3.2.2.1 l_1 ∧ ∃ (l_2 : List (List Int)), WkL (List.flatMap Evl.f d_3.2.2.2.2.1) (l_2.flatMap Evl.f) ∧ true = true ∧ R1 ((d, V, ()), ()) ((), (), ()) ((d_3.1.1, d_3.1.2.1, d_3.1.2.2.1, d_3.1.2.2.2.1, d_3.1.2.2.2.2.1, (), ()), l, l_1, (d_3.2.2.2.1.1, d_3.2.2.2.1.2.1, d_3.2.2.2.1.2.2.1, (), ()), l_2, ())) ∨ False) ∧ (∀ c d_3, putLR1 (((l, (), (), 0, ()), (d_1.1.1, d_1.1.2.1, d_1.1.2.2.1, (0, 0), (0, 0), (), ()), [], [], (d_2.1.1, d_2.1.2.1, (0, 0), (), ()), [], ()), false) c d_3 → AV.ptr 0 0 = AV.nilPtr ∧ AV.ptr 2 0 = AV.nilPtr ∧ true = true ∧ R0 ((d, V, ()), ()) ((), (), ()) () ∨ False ∨ true = true ∧ R2 ((d, V, ()), ()) ((), (), ()) ((d_3.1.1, d_3.1.2.1, d_3.1.2.2.1, (), (), (), ()), (d_3.2.1.1, d_3.2.1.2.1, (), (), ()), ())) ∧ True)))) ∧ True) ∧ True) := by kernel_rfl
def putGPre : putGZ → Prop := fun ((d, V, ()), ()) => V.length ≤ 60 ∧ (∀ v ∈ V, v.length ≤ 1000000)
def putGR0 : putGZ → qReP3 → (Unit) → Prop := fun ((d, V, ()), ()) _ _ => d < 1 ∨ 1024 < d
def putGR1 : putGZ → qReP3 → qReP4 → Prop := fun ((d, V, ()), ()) _ ((d2, r2, c2, t2, a2, _), T2, A2, (D2, R2, g2, _), W2, _) => SlOk d r2 c2 t2 a2 T2 A2 (fitV d V) ∧ fitV d V ≠ [] ∧ d2 = d ∧ D2 = d ∧ R2 = 60 ∧ g2 = (W2.length, W2.length) ∧ W2 = fitV d V
def putGR2 : putGZ → qReP3 → qReP5 → Prop := fun ((d, V, ()), ()) _ ((d2, r2, c2, _), (D2, R2, _), _) => fitV d V = [] ∧ 1 ≤ d ∧ d ≤ 1024 ∧ d2 = d ∧ r2 = 60 ∧ c2 = 0 ∧ D2 = d ∧ R2 = 60
noncomputable def putGK (gl : Tr (List AV)) : uA6 := callCg gl 0 putGT putGBl putGPre (putGRes putGR0 putGR1 putGR2)
theorem putGStep {gl : Tr (List AV)} (hg : GlOk gl) (z : putGZ) (hp : putGPre z) : uA2 PP (runW PP (KLX [(15, snewK), (18, rnewK)] [(6, [(6, putLC gl)])] [89, 27, 23] [] []) 200) 6 (putGT.cells id z.1) (stL true (putGBl.obs id z.2) gl (fun u => hasT u [23])) (fun v st => uA1 0 z v st (putGRes putGR0 putGR1 putGR2)) := by
 obtain ⟨⟨d, V, _⟩, _⟩ := z
 refine (putGFn gl d V _ _ _).mpr ?_
 obtain ⟨hl, hvl⟩ := hp
 refine ⟨rfl, rfl, fun c1 d1 h1 => ?_, fun c1 d1 h1 => ?_, trivial⟩
 ·obtain ⟨_, e, _⟩ := c1
  obtain ⟨he, hd⟩ := h1
  obtain rfl : e = 2 := he
  refine ⟨rfl, rfl, fun c2 d2 h2 => ?_, fun c2 d2 h2 => ?_, trivial⟩
  ·rw [uBu, if_neg (show ¬ (2 : Int) = 0 by decide)]
   exact Or.inl ⟨rfl, rfl, rfl, hd⟩
  ·rw [uBu, if_neg (show ¬ (2 : Int) = 0 by decide)]
   exact Or.inl ⟨rfl, rfl, rfl, hd⟩
 ·obtain ⟨_, e, _⟩ := c1
  obtain ⟨⟨d2, r2, c2, _, _, _, _⟩, _⟩ := d1
  obtain ⟨he, hd1, hd2, hdd, hr, hc⟩ := h1
  obtain rfl : e = 0 := he
  obtain rfl : d = d2 := Eq.symm hdd
  obtain rfl : r2 = 60 := hr
  obtain rfl : c2 = 0 := hc
  refine ⟨rfl, rfl, fun c3 d3 h3 => ?_, fun c3 d3 h3 => ?_, trivial⟩
  ·obtain ⟨_, hbad⟩ := h3
   exfalso; omega
  ·obtain ⟨_, e3, _⟩ := c3
   obtain ⟨⟨D2, R2, _, _, _⟩, _⟩ := d3
   obtain ⟨he3, _, _, hD, hR⟩ := h3
   obtain rfl : e3 = 0 := he3
   obtain rfl : d = D2 := Eq.symm hD
   obtain rfl : R2 = 60 := hR
   rw [uBu, if_pos rfl, uBu, if_pos rfl]
   refine ⟨putLOk hg, rfl, trivial, trivial, Or.inr ⟨V, Wk.refl _, rfl, ⟨0, rfl, Nat.zero_le _, hl, hvl, hd1, hd2, rfl, rfl, rfl, rfl, rfl, fun h9 => (by cases h9), fun _ => ⟨rfl, rfl⟩⟩, fun c4 d4 h4 => ?_, fun c4 d4 h4 => ?_, trivial⟩⟩
   ·obtain ⟨⟨d5, r5, c5, t5, a5, _, _⟩, T5, A5, ⟨D5, R5, g5, _, _⟩, W5, _⟩ := d4
    obtain ⟨g1, g2, g3, g4, g5', g6, g7⟩ := h4
    exact Or.inr (Or.inl ⟨T5, rfl, A5, rfl, W5, WkL.refl _, rfl, g1, g2, g3, g4, g5', g6, g7⟩)
   ·obtain ⟨⟨d5, r5, c5, _, _, _, _⟩, ⟨D5, R5, _, _, _⟩, _⟩ := d4
    obtain ⟨g1, g3, g4, g5, g6, g7⟩ := h4
    exact Or.inr (Or.inr ⟨rfl, g1, hd1, hd2, g3, g4, g5, g6, g7⟩)
theorem putGCc {gl : Tr (List AV)} (hg : GlOk gl) : CcOk PP 6 (putGK gl) := call_okg hg.fr mixed (uDp (uAi snewCc (uAi rnewCc (uAq)))) rfl (putGStep hg)
noncomputable def knC (q : List Int) (lo hi : List Int) (i : Nat) (v : List Int) : Cd :=
 let d := uBn (uAv q) (uAv v)
 if i < lo.length ∧ i < hi.length then
  let A := max 0 (d - uAu (Int.tmod (lo.getD i 0) 100000) 50000)
  ((1 + i : Nat), A, d - A + uAu (Int.tmod (hi.getD i 0) 100000) 50000, (i : Nat), ())
 else ((1 + i : Nat), d, 0, (i : Nat), ())
noncomputable def knV (q : List Int) (V : List (List Int)) (lo hi : List Int) : List Cd := (List.range V.length).map fun i => knC q lo hi i (V.getD i [])
theorem sqs_le : ∀ a b : List Int, wide a → wide b → 0 ≤ sqs a b ∧ sqs a b ≤ (a.length : Int) * 68719476736
 | [], _, _, _ => by simp [sqs]
 | x :: a, [], _, _ => ⟨by simp [sqs], by simp only [sqs]; exact Int.mul_nonneg (Int.natCast_nonneg _) (by decide)⟩
 | x :: a, y :: b, ha, hb => by
  obtain ⟨h1, h2⟩ := sqs_le a b (fun z hz => ha z (by simp [hz])) (fun z hz => hb z (by simp [hz]))
  obtain ⟨h3, h4⟩ := sq_le (ha x (by simp)) (hb y (by simp))
  simp only [sqs, List.length_cons]
  exact ⟨by omega, by rw [Int.natCast_succ, Int.add_mul]; omega⟩
theorem dist_range (a b : List Int) : 0 ≤ uBn a b ∧ uBn a b ≤ 70368744177664 := by
  rw [uBn]
  split
  · rename_i h
    obtain ⟨h1, h2, h3⟩ := pair_zero h
    obtain ⟨a1, a2, wa⟩ := cw_zero h1
    obtain ⟨_, _, wb⟩ := cw_zero h2
    have := sqs_le a b wa wb
    exact ⟨this.1, by have h9 : (a.length : Int) * 68719476736 ≤ 1024 * 68719476736 := Int.mul_le_mul_of_nonneg_right (by omega) (by decide)
                      omega⟩
  · exact ⟨Int.le_refl _, by decide⟩
theorem max_eq {x : Int} : ifb (uAf x 0) 0 x = max 0 x := by
 rw [uBo, uCk]
 by_cases h : x ≤ 0
 ·rw [if_pos (by simpa using h)]; omega
 ·rw [if_neg (by simpa using h)]; omega
theorem rem_range {x : Int} : -9223372036854775808 ≤ Int.tmod x 100000 ∧ Int.tmod x 100000 < 9223372036854775808 := by
 have h1 : Int.tmod x 100000 < 100000 := Int.tmod_lt_of_pos x (by decide)
 have h2 : Int.tmod (-x) 100000 < 100000 := Int.tmod_lt_of_pos _ (by decide)
 rw [Int.neg_tmod] at h2
 omega
theorem kn_in {q lo hi v : List Int} {i : Nat} (h1 : i < lo.length) (h2 : i < hi.length) (hi60 : i < 60) : [AV.int .i64 (uAa .i64 (Int.add 1 (i : Int))), AV.int .i64 (ifb (uAf (uAa .i64 ((uBn (uAv q) (uAv v)).sub (uAu (Int.tmod lo[i] 100000) 50000))) 0) 0 (uAa .i64 ((uBn (uAv q) (uAv v)).sub (uAu (Int.tmod lo[i] 100000) 50000)))), AV.int .i64 (uAa .i64 ((uAa .i64 ((uBn (uAv q) (uAv v)).sub (ifb (uAf (uAa .i64 ((uBn (uAv q) (uAv v)).sub (uAu (Int.tmod lo[i] 100000) 50000))) 0) 0 (uAa .i64 ((uBn (uAv q) (uAv v)).sub (uAu (Int.tmod lo[i] 100000) 50000)))))).add (uAu (Int.tmod hi[i] 100000) 50000))), AV.int .i64 (i : Int)] = Ec.f (knC q lo hi i v) := by
 obtain ⟨d1, d2⟩ := dist_range (uAv q) (uAv v)
 obtain ⟨p1, p2⟩ := pick_range (n := Int.tmod lo[i] 100000) (m := 50000) (by decide)
 obtain ⟨r1, r2⟩ := pick_range (n := Int.tmod hi[i] 100000) (m := 50000) (by decide)
 have e1 : uAa .i64 (Int.add 1 (i : Int)) = ((1 + i : Nat) : Int) := by rw [show Int.add 1 (i : Int) = ((1 + i : Nat) : Int) by show (1 : Int) + i = _; omega, w64 (by omega) (by omega)]
 have e2 : uAa .i64 ((uBn (uAv q) (uAv v)).sub (uAu (Int.tmod lo[i] 100000) 50000)) = uBn (uAv q) (uAv v) - uAu (Int.tmod lo[i] 100000) 50000 := wsub (by omega) (by omega)
 have e3 : knC q lo hi i v = (((1 + i : Nat) : Int), max 0 (uBn (uAv q) (uAv v) - uAu (Int.tmod lo[i] 100000) 50000), uBn (uAv q) (uAv v) - max 0 (uBn (uAv q) (uAv v) - uAu (Int.tmod lo[i] 100000) 50000) + uAu (Int.tmod hi[i] 100000) 50000, ((i : Nat) : Int), ()) := by
  rw [knC]; simp only [if_pos (And.intro h1 h2), List.getD_eq_getElem?_getD, List.getElem?_eq_getElem h1, List.getElem?_eq_getElem h2, Option.getD_some]
 rw [e3, e1, e2, max_eq]
 generalize uBn (uAv q) (uAv v) = D at *
 generalize uAu (Int.tmod lo[i] 100000) 50000 = p at *
 generalize uAu (Int.tmod hi[i] 100000) 50000 = s at *
 have e4 : uAa .i64 (D.sub (max 0 (D - p))) = D - max 0 (D - p) := wsub (by omega) (by omega)
 rw [e4]
 have e5 : uAa .i64 ((D - max 0 (D - p)).add s) = D - max 0 (D - p) + s := wadd (by omega) (by omega)
 rw [e5]; rfl
theorem kn_out {q lo hi v : List Int} {i : Nat} (h : ¬ (i < lo.length ∧ i < hi.length)) (hi60 : i < 60) : [AV.int .i64 (uAa .i64 (Int.add 1 (i : Int))), AV.int .i64 (uBn (uAv q) (uAv v)), AV.int .i64 0, AV.int .i64 (i : Int)] = Ec.f (knC q lo hi i v) := by
 have e1 : uAa .i64 (Int.add 1 (i : Int)) = ((1 + i : Nat) : Int) := by rw [show Int.add 1 (i : Int) = ((1 + i : Nat) : Int) by show (1 : Int) + i = _; omega, w64 (by omega) (by omega)]
 rw [knC, e1]; simp only [if_neg h]; rfl
theorem kn_len (q : List Int) (V : List (List Int)) (lo hi : List Int) : (knV q V lo hi).length = V.length := by simp [knV]
abbrev qRePt4 := (List Int) × (List (List Int)) × (List Int) × (List Int) × (List Cd) × Int × Unit
abbrev qRePt6 := Unit × Unit
abbrev knLZ := qRePt4 × qRePt6
noncomputable def knLSl : Tel qRePt4 := .cons 0 (.lst Ei16) (.cons 1 (.lst Evl) (.cons 2 (.lst Ei64) (.cons 3 (.lst Ei64) (.cons 9 (.own Ec 0) (.ji 10 (.nil))))))
noncomputable def knLBl : BTel qRePt6 := .cons (.spare) (.nil)
abbrev qRePt5 := (List Int) × (List (List Int)) × (List Int) × (List Int) × Unit × Int × Unit
noncomputable def knLSl0 : Tel qRePt5 := .cons 0 (.lst Ei16) (.cons 1 (.lst Evl) (.cons 2 (.lst Ei64) (.cons 3 (.lst Ei64) (.cons 9 (.nilS) (.ji 10 (.nil))))))
noncomputable def knLBl0 : BTel (Unit) := .nil
noncomputable def knLZ0 : qRePt5 → (Unit) → knLZ := fun (q, V, lo, hi, (), i, ()) () => ((q, V, lo, hi, [], i, ()), (), ())
noncomputable def knLFs : List (LForm knLZ) := [⟨_, _, knLSl, knLBl, fun x y => (x, y)⟩, ⟨_, _, knLSl0, knLBl0, knLZ0⟩]
abbrev qReP6 := (List Cd) × Unit
noncomputable def knLAlts (R0 : knLZ → qReP6 → qRePt6 → Prop) (R1 : knLZ → qRePt6 → (Unit) → Prop) : List (Alt knLZ) := [⟨.exit 0, qReP6, Unit × Unit, .cons 9 (.own Ec 0) (.nil), .cons (.spare) (.nil), R0⟩, ⟨.exit 0, Unit × Unit, Unit, .cons 9 (.nilS) (.nil), .nil, R1⟩]
noncomputable abbrev qRePk0 := KL [(14, rwideK), (13, rdistK), (7, pickK)] []
theorem knLForm (q : List Int) (V : List (List Int)) (lo hi : List Int) (o : List Cd) (i : Int) (N : knLZ → Prop) (R0 : knLZ → qReP6 → qRePt6 → Prop) (R1 : knLZ → qRePt6 → (Unit) → Prop) : ((runW PP qRePk0 100).code none 8 73 (uAd PP 8 3) (mkT (knLSl.av id (q, V, lo, hi, o, i, ()))) [] (stL true (knLBl.obs id ((), ()))) (uCh 0 knLFs (knLAlts R0 R1) ((q, V, lo, hi, o, i, ()), (), ()) N)) = ( ifp (!uAf (Int.ofNat V.length) i) (∃ l, Wv Ei16 q l ∧ rwidePre (l, ()) ∧ uAp i V.length ∧ ∃ l' n c x w e, nth ((uAc i).mul 1) (V.flatMap Evl.f) = some (AV.vs l' n c x w e) ∧ ∃ (l_1 : List Int), Wk (AV.vs l' n c x w e) (lst Ei16 l_1) ∧ rwidePre (l_1, ()) ∧ ∃ l_2, Wv Ei32 (uAv l) l_2 ∧ ∃ l, Wv Ei32 (uAv l_1) l ∧ rdistPre (l_2, l, ()) ∧ ((∃ (l'_1 : List AV), ∃ (n_1 : Nat), ∃ (c_1 : Nat), ∃ (x_1 : Bool), ∃ (w_1 : Option Nat), ∃ (e_1 : Nat), nth ((uAc i).mul 1) (V.flatMap Evl.f) = some (AV.vs l'_1 n_1 c_1 x_1 w_1 e_1) ∧ AV.vs l'_1 n_1 c_1 x_1 w_1 e_1 = AV.vs l' n c x w e) ∧ True) ∧ ifp (!uAf (Int.ofNat lo.length) i) (ifp (!uAf (Int.ofNat hi.length) i) (uAp i lo.length ∧ ∃ x : Int, nth ((uAc i).mul 1) (lo.flatMap Ei64.f) = some (I64 x) ∧ (100000 : Int) ≠ 0 ∧ pickPre (x.tmod 100000, 50000, ()) ∧ uAp i hi.length ∧ ∃ x_1 : Int, nth ((uAc i).mul 1) (hi.flatMap Ei64.f) = some (I64 x_1) ∧ (100000 : Int) ≠ 0 ∧ pickPre (x_1.tmod 100000, 50000, ()) ∧ (I64 (ifb (uAf (uAa .i64 ((uBn l_2 l).sub (uAu (x.tmod 100000) 50000))) 0) 0 (uAa .i64 ((uBn l_2 l).sub (uAu (x.tmod 100000) 50000)))) = I64 (ifb (uAf (uAa .i64 ((uBn l_2 l).sub (uAu (x.tmod 100000) 50000))) 0) 0 (uAa .i64 ((uBn l_2 l).sub (uAu (x.tmod 100000) 50000)))) ∧ True) ∧ True ∧ 4 ≤ 4 ∧ ifp (roomy (o.length.add 1) 32) (True ∧ ((∃ l_3, Wv Ei16 q l_3 ∧ ∃ l_4, Wv Evl V l_4 ∧ ∃ l_5, Wv Ei64 lo l_5 ∧ ∃ l_6, Wv Ei64 hi l_6 ∧ ∃ (l_7 : List Cd), (WkL (o.flatMap Ec.f ++ [I64 (uAa .i64 (Int.add 1 i)), I64 (ifb (uAf (uAa .i64 ((uBn l_2 l).sub (uAu (x.tmod 100000) 50000))) 0) 0 (uAa .i64 ((uBn l_2 l).sub (uAu (x.tmod 100000) 50000)))), I64 (uAa .i64 ((uAa .i64 ((uBn l_2 l).sub (ifb (uAf (uAa .i64 ((uBn l_2 l).sub (uAu (x.tmod 100000) 50000))) 0) 0 (uAa .i64 ((uBn l_2 l).sub (uAu (x.tmod 100000) 50000)))))).add (uAu (x_1.tmod 100000) 50000))), I64 i]) (l_7.flatMap Ec.f) ∧ o.length.add 1 = l_7.length ∧ 4 = 4) ∧ true = true ∧ N ((l_3, l_4, l_5, l_6, l_7, uAa .i64 (i.add 1), ()), (), ())) ∨ ∃ l, Wv Ei16 q l ∧ ∃ l, Wv Evl V l ∧ ∃ l, Wv Ei64 lo l ∧ ∃ l, Wv Ei64 hi l ∧ False)) False) (4 ≤ 4 ∧ ifp (roomy (o.length.add 1) 32) (True ∧ ((∃ l_3, Wv Ei16 q l_3 ∧ ∃ l_4, Wv Evl V l_4 ∧ ∃ l_5, Wv Ei64 lo l_5 ∧ ∃ l_6, Wv Ei64 hi l_6 ∧ ∃ (l_7 : List Cd), (WkL (o.flatMap Ec.f ++ [I64 (uAa .i64 (Int.add 1 i)), I64 (uBn l_2 l), I64 0, I64 i]) (l_7.flatMap Ec.f) ∧ o.length.add 1 = l_7.length ∧ 4 = 4) ∧ true = true ∧ N ((l_3, l_4, l_5, l_6, l_7, uAa .i64 (i.add 1), ()), (), ())) ∨ ∃ l, Wv Ei16 q l ∧ ∃ l, Wv Evl V l ∧ ∃ l, Wv Ei64 lo l ∧ ∃ l, Wv Ei64 hi l ∧ False)) False)) (4 ≤ 4 ∧ ifp (roomy (o.length.add 1) 32) (True ∧ ((∃ l_3, Wv Ei16 q l_3 ∧ ∃ l_4, Wv Evl V l_4 ∧ ∃ l_5, Wv Ei64 lo l_5 ∧ ∃ l_6, Wv Ei64 hi l_6 ∧ ∃ (l_7 : List Cd), (WkL (o.flatMap Ec.f ++ [I64 (uAa .i64 (Int.add 1 i)), I64 (uBn l_2 l), I64 0, I64 i]) (l_7.flatMap Ec.f) ∧ o.length.add 1 = l_7.length ∧ 4 = 4) ∧ true = true ∧ N ((l_3, l_4, l_5, l_6, l_7, uAa .i64 (i.add 1), ()), (), ())) ∨ ∃ l, Wv Ei16 q l ∧ ∃ l, Wv Evl V l ∧ ∃ l, Wv Ei64 lo l ∧ ∃ l, Wv Ei64 hi l ∧ False)) False)) ((True ∧ ∃ l, Ow Ec o l 4 ∧ true = true ∧ R0 ((q, V, lo, hi, o, i, ()), (), ()) (l, ()) ((), ())) ∨ True ∧ False)) := by kernel_rfl
theorem knLForm0 (q : List Int) (V : List (List Int)) (lo hi : List Int) (i : Int) (N : knLZ → Prop) (R0 : knLZ → qReP6 → qRePt6 → Prop) (R1 : knLZ → qRePt6 → (Unit) → Prop) : ((runW PP qRePk0 100).code none 8 73 (uAd PP 8 3) (mkT (knLSl0.av id (q, V, lo, hi, (), i, ()))) [] (stL true (knLBl0.obs id ())) (uCh 0 knLFs (knLAlts R0 R1) (knLZ0 (q, V, lo, hi, (), i, ()) ()) N)) = ( ifp (!uAf (Int.ofNat V.length) i) (∃ l, Wv Ei16 q l ∧ rwidePre (l, ()) ∧ uAp i V.length ∧ ∃ l' n c x w e, nth ((uAc i).mul 1) (V.flatMap Evl.f) = some (AV.vs l' n c x w e) ∧ ∃ (l_1 : List Int), Wk (AV.vs l' n c x w e) (lst Ei16 l_1) ∧ rwidePre (l_1, ()) ∧ ∃ l_2, Wv Ei32 (uAv l) l_2 ∧ ∃ l, Wv Ei32 (uAv l_1) l ∧ rdistPre (l_2, l, ()) ∧ ((∃ (l'_1 : List AV), ∃ (n_1 : Nat), ∃ (c_1 : Nat), ∃ (x_1 : Bool), ∃ (w_1 : Option Nat), ∃ (e_1 : Nat), nth ((uAc i).mul 1) (V.flatMap Evl.f) = some (AV.vs l'_1 n_1 c_1 x_1 w_1 e_1) ∧ AV.vs l'_1 n_1 c_1 x_1 w_1 e_1 = AV.vs l' n c x w e) ∧ True) ∧ ifp (!uAf (Int.ofNat lo.length) i) (ifp (!uAf (Int.ofNat hi.length) i) (uAp i lo.length ∧ ∃ x : Int, nth ((uAc i).mul 1) (lo.flatMap Ei64.f) = some (I64 x) ∧ (100000 : Int) ≠ 0 ∧ pickPre (x.tmod 100000, 50000, ()) ∧ uAp i hi.length ∧ ∃ x_1 : Int, nth ((uAc i).mul 1) (hi.flatMap Ei64.f) = some (I64 x_1) ∧ (100000 : Int) ≠ 0 ∧ pickPre (x_1.tmod 100000, 50000, ()) ∧ (I64 (ifb (uAf (uAa .i64 ((uBn l_2 l).sub (uAu (x.tmod 100000) 50000))) 0) 0 (uAa .i64 ((uBn l_2 l).sub (uAu (x.tmod 100000) 50000)))) = I64 (ifb (uAf (uAa .i64 ((uBn l_2 l).sub (uAu (x.tmod 100000) 50000))) 0) 0 (uAa .i64 ((uBn l_2 l).sub (uAu (x.tmod 100000) 50000)))) ∧ True) ∧ True ∧ 4 ≤ 4 ∧ True ∧ ((∃ l_3, Wv Ei16 q l_3 ∧ ∃ l_4, Wv Evl V l_4 ∧ ∃ l_5, Wv Ei64 lo l_5 ∧ ∃ l_6, Wv Ei64 hi l_6 ∧ ∃ (l_7 : List Cd), (WkL [I64 (uAa .i64 (Int.add 1 i)), I64 (ifb (uAf (uAa .i64 ((uBn l_2 l).sub (uAu (x.tmod 100000) 50000))) 0) 0 (uAa .i64 ((uBn l_2 l).sub (uAu (x.tmod 100000) 50000)))), I64 (uAa .i64 ((uAa .i64 ((uBn l_2 l).sub (ifb (uAf (uAa .i64 ((uBn l_2 l).sub (uAu (x.tmod 100000) 50000))) 0) 0 (uAa .i64 ((uBn l_2 l).sub (uAu (x.tmod 100000) 50000)))))).add (uAu (x_1.tmod 100000) 50000))), I64 i] (l_7.flatMap Ec.f) ∧ 1 = l_7.length ∧ 4 = 4) ∧ true = true ∧ N ((l_3, l_4, l_5, l_6, l_7, uAa .i64 (i.add 1), ()), (), ())) ∨ ∃ l, Wv Ei16 q l ∧ ∃ l, Wv Evl V l ∧ ∃ l, Wv Ei64 lo l ∧ ∃ l, Wv Ei64 hi l ∧ False)) (4 ≤ 4 ∧ True ∧ ((∃ l_3, Wv Ei16 q l_3 ∧ ∃ l_4, Wv Evl V l_4 ∧ ∃ l_5, Wv Ei64 lo l_5 ∧ ∃ l_6, Wv Ei64 hi l_6 ∧ ∃ (l_7 : List Cd), (WkL [I64 (uAa .i64 (Int.add 1 i)), I64 (uBn l_2 l), I64 0, I64 i] (l_7.flatMap Ec.f) ∧ 1 = l_7.length ∧ 4 = 4) ∧ true = true ∧ N ((l_3, l_4, l_5, l_6, l_7, uAa .i64 (i.add 1), ()), (), ())) ∨ ∃ l, Wv Ei16 q l ∧ ∃ l, Wv Evl V l ∧ ∃ l, Wv Ei64 lo l ∧ ∃ l, Wv Ei64 hi l ∧ False))) (4 ≤ 4 ∧ True ∧ ((∃ l_3, Wv Ei16 q l_3 ∧ ∃ l_4, Wv Evl V l_4 ∧ ∃ l_5, Wv Ei64 lo l_5 ∧ ∃ l_6, Wv Ei64 hi l_6 ∧ ∃ (l_7 : List Cd), (WkL [I64 (uAa .i64 (Int.add 1 i)), I64 (uBn l_2 l), I64 0, I64 i] (l_7.flatMap Ec.f) ∧ 1 = l_7.length ∧ 4 = 4) ∧ true = true ∧ N ((l_3, l_4, l_5, l_6, l_7, uAa .i64 (i.add 1), ()), (), ())) ∨ ∃ l, Wv Ei16 q l ∧ ∃ l, Wv Evl V l ∧ ∃ l, Wv Ei64 lo l ∧ ∃ l, Wv Ei64 hi l ∧ False))) (True ∧ False ∨ True ∧ true = true ∧ R1 ((q, V, lo, hi, [], i, ()), (), ()) ((), ()) ())) := by kernel_rfl
def knLInv : knLZ → Prop := fun ((q, V, lo, hi, o, i, ()), (), ()) => ∃ k : Nat, i = k ∧ k ≤ V.length ∧ V.length ≤ 60 ∧ q.length ≤ 1000 ∧ (∀ v ∈ V, v.length ≤ 1000) ∧ (∀ x ∈ lo, -9223372036854775808 ≤ x ∧ x < 9223372036854775808) ∧ (∀ x ∈ hi, -9223372036854775808 ≤ x ∧ x < 9223372036854775808) ∧ o = (List.range k).map (fun i => knC q lo hi i (V.getD i []))
def knLMu : knLZ → Nat := fun ((q, V, lo, hi, o, i, ()), (), ()) => V.length - i.toNat
def knLR0 : knLZ → qReP6 → qRePt6 → Prop := fun ((q, V, lo, hi, o, i, ()), (), ()) (o2, _) _ => o2 = knV q V lo hi
def knLR1 : knLZ → qRePt6 → (Unit) → Prop := fun ((q, V, lo, hi, o, i, ()), (), ()) _ _ => knV q V lo hi = []
noncomputable def knLC : uB5 := uC9 0 knLFs (knLAlts knLR0 knLR1) knLInv
theorem knLStep : uA3 PP qRePk0 100 8 73 (uAd PP 8 3) 0 true knLFs (knLAlts knLR0 knLR1) knLInv knLMu ⟨_, _, knLSl, knLBl, fun x y => (x, y)⟩ := by
 intro x y hz
 obtain ⟨q, V, lo, hi, o, i, _⟩ := x
 obtain ⟨_, _⟩ := y
 refine (knLForm q V lo hi o i _ _ _).mpr ?_
 obtain ⟨k, rfl, hk, hl, hq, hv, hlo, hhi, ho⟩ := hz
 have hol : o.length = k := by rw [ho]; simp
 rw [uAe]
 simp only [uAt]
 split
 ·rename_i h
  have hkl : k < V.length := by simpa using h
  have hstep : (List.range (k + 1)).map (fun i => knC q lo hi i (V.getD i [])) = o ++ [knC q lo hi k V[k]] := by rw [List.range_succ, List.map_append, ← ho]; simp [List.getD_eq_getElem?_getD, List.getElem?_eq_getElem hkl]
  refine ⟨q, Wk.refl _, by show q.length ≤ 1000000; omega, uAk hkl, _, _, _, _, _, _, uA4 hkl, V[k], Wk.refl _, by have := hv _ (List.getElem_mem hkl); show _ ≤ 1000000; omega, uAv q, Wk.refl _, uAv V[k], Wk.refl _, trivial, ⟨⟨_, _, _, _, _, _, uA4 hkl, rfl⟩, trivial⟩, ?_⟩
  rw [uAe, uAe]
  split
  ·rename_i h1
   have hk1 : k < lo.length := by simpa using h1
   split
   ·rename_i h2
    have hk2 : k < hi.length := by simpa using h2
    refine ⟨uAk hk1, _, uBa hk1, by decide, ⟨rem_range.1, rem_range.2, by decide⟩, uAk hk2, _, uBa hk2, by decide, ⟨rem_range.1, rem_range.2, by decide⟩, ⟨(by trivial), trivial⟩, trivial, ?_⟩
    refine ⟨Nat.le_refl _, ?_⟩
    rw [uAj (uAg (by show o.length + 1 ≤ _; omega) (by decide))]
    refine ⟨trivial, Or.inl ⟨q, Wk.refl _, V, Wk.refl _, lo, Wk.refl _, hi, Wk.refl _, o ++ [knC q lo hi k V[k]], ⟨wkl_snoc (E := Ec) (by rw [kn_in hk1 hk2 (by omega)]; exact WkL.refl _), len_snoc, (by trivial)⟩, (by trivial), ?_⟩⟩
    rw [uCb (by omega)]
    exact ⟨⟨k + 1, rfl, hkl, hl, hq, hv, hlo, hhi, hstep.symm⟩, by show V.length - (k + 1) < V.length - k; omega, fun _ _ h => h, fun _ _ h => h, trivial⟩
   ·rename_i h2
    refine ⟨Nat.le_refl _, ?_⟩
    rw [uAj (uAg (by show o.length + 1 ≤ _; omega) (by decide))]
    refine ⟨trivial, Or.inl ⟨q, Wk.refl _, V, Wk.refl _, lo, Wk.refl _, hi, Wk.refl _, o ++ [knC q lo hi k V[k]], ⟨wkl_snoc (E := Ec) (by rw [kn_out (lo := lo) (hi := hi) (fun h9 => h2 (by show (k : Int) < (hi.length : Int); omega)) (by omega)]; exact WkL.refl _), len_snoc, (by trivial)⟩, (by trivial), ?_⟩⟩
    rw [uCb (by omega)]
    exact ⟨⟨k + 1, rfl, hkl, hl, hq, hv, hlo, hhi, hstep.symm⟩, by show V.length - (k + 1) < V.length - k; omega, fun _ _ h => h, fun _ _ h => h, trivial⟩
  ·rename_i h1
   refine ⟨Nat.le_refl _, ?_⟩
   rw [uAj (uAg (by show o.length + 1 ≤ _; omega) (by decide))]
   refine ⟨trivial, Or.inl ⟨q, Wk.refl _, V, Wk.refl _, lo, Wk.refl _, hi, Wk.refl _, o ++ [knC q lo hi k V[k]], ⟨wkl_snoc (E := Ec) (by rw [kn_out (lo := lo) (hi := hi) (fun h9 => h1 (by show (k : Int) < (lo.length : Int); omega)) (by omega)]; exact WkL.refl _), len_snoc, (by trivial)⟩, (by trivial), ?_⟩⟩
   rw [uCb (by omega)]
   exact ⟨⟨k + 1, rfl, hkl, hl, hq, hv, hlo, hhi, hstep.symm⟩, by show V.length - (k + 1) < V.length - k; omega, fun _ _ h => h, fun _ _ h => h, trivial⟩
 ·rename_i h
  have hkl : ¬ k < V.length := by simpa using h
  have hkV : k = V.length := by omega
  exact Or.inl ⟨trivial, o, ⟨WkL.refl _, (by trivial), (by trivial)⟩, (by trivial), by show o = (List.range V.length).map _; rw [← hkV]; exact ho⟩
theorem knLStep0 : uA3 PP qRePk0 100 8 73 (uAd PP 8 3) 0 true knLFs (knLAlts knLR0 knLR1) knLInv knLMu ⟨_, _, knLSl0, knLBl0, knLZ0⟩ := by
 intro x y hz
 obtain ⟨q, V, lo, hi, _, i, _⟩ := x
 obtain _ := y
 refine (knLForm0 q V lo hi i _ _ _).mpr ?_
 obtain ⟨k, rfl, hk, hl, hq, hv, hlo, hhi, ho⟩ := hz
 rw [uAe]
 simp only [uAt]
 split
 ·rename_i h
  have hkl : k < V.length := by simpa using h
  have hstep : (List.range (k + 1)).map (fun i => knC q lo hi i (V.getD i [])) = ([] : List Cd) ++ [knC q lo hi k V[k]] := by rw [List.range_succ, List.map_append, ← ho]; simp [List.getD_eq_getElem?_getD, List.getElem?_eq_getElem hkl]
  refine ⟨q, Wk.refl _, by show q.length ≤ 1000000; omega, uAk hkl, _, _, _, _, _, _, uA4 hkl, V[k], Wk.refl _, by have := hv _ (List.getElem_mem hkl); show _ ≤ 1000000; omega, uAv q, Wk.refl _, uAv V[k], Wk.refl _, trivial, ⟨⟨_, _, _, _, _, _, uA4 hkl, rfl⟩, trivial⟩, ?_⟩
  rw [uAe, uAe]
  split
  ·rename_i h1
   have hk1 : k < lo.length := by simpa using h1
   split
   ·rename_i h2
    have hk2 : k < hi.length := by simpa using h2
    refine ⟨uAk hk1, _, uBa hk1, by decide, ⟨rem_range.1, rem_range.2, by decide⟩, uAk hk2, _, uBa hk2, by decide, ⟨rem_range.1, rem_range.2, by decide⟩, ⟨(by trivial), trivial⟩, trivial, ?_⟩
    refine ⟨Nat.le_refl _, trivial, Or.inl ⟨q, Wk.refl _, V, Wk.refl _, lo, Wk.refl _, hi, Wk.refl _, [knC q lo hi k V[k]], ⟨wkl_one (E := Ec) (by rw [kn_in hk1 hk2 (by omega)]; exact WkL.refl _), (by trivial), (by trivial)⟩, (by trivial), ?_⟩⟩
    rw [uCb (by omega)]
    exact ⟨⟨k + 1, rfl, hkl, hl, hq, hv, hlo, hhi, hstep.symm⟩, by show V.length - (k + 1) < V.length - k; omega, fun _ _ h => h, fun _ _ h => h, trivial⟩
   ·rename_i h2
    refine ⟨Nat.le_refl _, trivial, Or.inl ⟨q, Wk.refl _, V, Wk.refl _, lo, Wk.refl _, hi, Wk.refl _, [knC q lo hi k V[k]], ⟨wkl_one (E := Ec) (by rw [kn_out (lo := lo) (hi := hi) (fun h9 => h2 (by show (k : Int) < (hi.length : Int); omega)) (by omega)]; exact WkL.refl _), (by trivial), (by trivial)⟩, (by trivial), ?_⟩⟩
    rw [uCb (by omega)]
    exact ⟨⟨k + 1, rfl, hkl, hl, hq, hv, hlo, hhi, hstep.symm⟩, by show V.length - (k + 1) < V.length - k; omega, fun _ _ h => h, fun _ _ h => h, trivial⟩
  ·rename_i h1
   refine ⟨Nat.le_refl _, trivial, Or.inl ⟨q, Wk.refl _, V, Wk.refl _, lo, Wk.refl _, hi, Wk.refl _, [knC q lo hi k V[k]], ⟨wkl_one (E := Ec) (by rw [kn_out (lo := lo) (hi := hi) (fun h9 => h1 (by show (k : Int) < (lo.length : Int); omega)) (by omega)]; exact WkL.refl _), (by trivial), (by trivial)⟩, (by trivial), ?_⟩⟩
   rw [uCb (by omega)]
   exact ⟨⟨k + 1, rfl, hkl, hl, hq, hv, hlo, hhi, hstep.symm⟩, by show V.length - (k + 1) < V.length - k; omega, fun _ _ h => h, fun _ _ h => h, trivial⟩
 ·rename_i h
  have hkl : ¬ k < V.length := by simpa using h
  have hkV : k = V.length := by omega
  exact Or.inr ⟨trivial, (by trivial), by show (List.range V.length).map _ = []; rw [← hkV]; exact ho.symm⟩
theorem knLOk : uAs PP 8 73 (.loop (uAd PP 8 3)) (knLC) := uBf knLMu  mixed (uC8 (uAi rwideCc (uAi rdistCc (uAi pickCc (uAq))))) rfl (uAo knLStep (uAo knLStep0 (uAx)))
noncomputable def knownT : Tel ((List Int) × (List (List Int)) × (List Int) × (List Int) × Unit) := .cons 0 (.lst Ei16) (.cons 1 (.lst Evl) (.cons 2 (.lst Ei64) (.cons 3 (.lst Ei64) (.nil))))
theorem knownFn (q : List Int) (V : List (List Int)) (lo hi : List Int) (Q : AV → Prop) : (uA2 PP (runW PP (KL [] [(8, [(3, knLC)])]) 200) 8 (knownT.cells id (q, V, lo, hi, ())) (stE true) (fun x st => frzW st x Q)) = ( uAs PP 8 73 (uAd PP 8 3).loop knLC ∧ True ∧ True ∧ ((∃ l, Wv Ei16 q l ∧ ∃ l, Wv Evl V l ∧ ∃ l, Wv Ei64 lo l ∧ ∃ l, Wv Ei64 hi l ∧ False) ∨ ∃ l, Wv Ei16 q l ∧ ∃ l_1, Wv Evl V l_1 ∧ ∃ l_2, Wv Ei64 lo l_2 ∧ ∃ l_3, Wv Ei64 hi l_3 ∧ true = true ∧ knLInv ((l, l_1, l_2, l_3, [], 0, ()), (), ()) ∧ (∀ c d, knLR0 ((l, l_1, l_2, l_3, [], 0, ()), (), ()) c d → Q (AV.vs (List.flatMap Ec.f c.1) c.1.length c.1.length false (some 0) 4)) ∧ (∀ c d, knLR1 ((l, l_1, l_2, l_3, [], 0, ()), (), ()) c d → Q AV.nilSlice) ∧ True)) := by kernel_rfl
def knownPre : (List Int) × (List (List Int)) × (List Int) × (List Int) × Unit → Prop := fun (q, V, lo, hi, ()) => V.length ≤ 60 ∧ q.length ≤ 1000 ∧ (∀ v ∈ V, v.length ≤ 1000) ∧ (∀ x ∈ lo, -9223372036854775808 ≤ x ∧ x < 9223372036854775808) ∧ (∀ x ∈ hi, -9223372036854775808 ≤ x ∧ x < 9223372036854775808)
noncomputable def knownRes : (List Int) × (List (List Int)) × (List Int) × (List Int) × Unit → AV := fun (q, V, lo, hi, ()) => lst Ec (knV q V lo hi)
noncomputable def knownK : uA6 := valC knownT knownPre knownRes
theorem knownVal (q : List Int) (V : List (List Int)) (lo : List Int) (hi : List Int) (hp : knownPre (q, V, lo, hi, ())) : Val PP 8 (knownT.cells id (q, V, lo, hi, ())) (knownRes (q, V, lo, hi, ())) := by
 refine Val.ofF mixed (uC8 (uAq)) (uDa rfl _) (knownFn q V lo hi) ?_
 obtain ⟨hl, hq, hv, hlo, hhi⟩ := hp
 refine ⟨knLOk, trivial, trivial, Or.inr ⟨q, Wk.refl _, V, Wk.refl _, lo, Wk.refl _, hi, Wk.refl _, rfl, ⟨0, rfl, Nat.zero_le _, hl, hq, hv, hlo, hhi, rfl⟩, fun c _ hr => ?_, fun c _ hr => ?_, trivial⟩⟩
 ·obtain ⟨o2, _⟩ := c
  obtain rfl : o2 = knV q V lo hi := hr
  exact tells_lst ⟨rfl, rfl, rfl⟩
 ·show Tells .nilSlice (lst Ec (knV q V lo hi))
  rw [show knV q V lo hi = [] from hr]; exact tells_nil _
theorem knownCc : CcOk PP 8 knownK := uC2 rfl (fun ⟨q, ⟨V, ⟨lo, ⟨hi, _⟩⟩⟩⟩ h => knownVal q V lo hi h)
end Go.Proofs.YteehkdejkemnmacDoor
namespace Go.Proofs.YteehkdejkemnmacDoor
open Go.Det Go.RowKit
set_option maxRecDepth 100000
theorem weakLess : Stab.Weak uBs where
 irr := uDm.irr
 tr a b c h1 h2 := uDm.tr _ _ _ h1 h2
 ntr a b c h1 h2 := uDm.le_tr (a := c) (b := b) (c := a) h2 h1
theorem near_stab (l : List Near) : uBq l = Stab.sort uBs l := srt_unique (uDl l) (Stab.sort_srt weakLess l) ((uB8 l).trans (Stab.sort_perm l).symm)
def topL (k : Int) (X : List Near) : List Near := (uBq X).take k.toNat
theorem topL_len (k : Int) (X : List Near) : (topL k X).length = min k.toNat X.length := by rw [topL, List.length_take, nearSort_len]
theorem topL_srt (k : Int) (X : List Near) : Srt (topL k X) := (uDl X).sublist (List.take_sublist _ _)
theorem topL_perm {X Y : List Near} (k : Int) (h : X.Perm Y) : topL k X = topL k Y := by
 rw [topL, topL, srt_unique (uDl X) (uDl Y) ((uB8 X).trans (h.trans (uB8 Y).symm))]
theorem ins_mg {L : List Near} (h : Srt L) (n : Near) : insV L n = Stab.mg uBs L [n] := by
 have h1 : insV L n = uBq (L ++ [n]) := srt_unique (ins_sorted h n) (uDl _) (((ins_perm L n).trans (List.perm_append_comm (l₁ := [n]) (l₂ := L))).trans (uB8 _).symm)
 rw [h1, near_stab, Stab.sort_snoc, Stab.sort_id h]
theorem top_snoc (k : Int) (X : List Near) (n : Near) : topL k (X ++ [n]) = (insV (topL k X) n).take k.toNat := by
 rw [ins_mg (topL_srt k X), topL, topL, near_stab, near_stab, Stab.sort_snoc, ← Stab.mg_take k.toNat _ [n] k.toNat (k.toNat + 1) (Nat.le_refl _) (Nat.le_succ _)]
 rw [show [n].take (k.toNat + 1) = [n] by simp]
theorem radd_top {k : Int} (k0 : 0 ≤ k) (X : List Near) (n : Near) : uBr k (topL k X) n = topL k (X ++ [n]) := by
 rw [top_snoc]
 rw [uBr]
 split
 ·rfl
 ·rename_i hk
  have hk' : keepV k (topL k X) n = false := by simpa using hk
  simp only [keepV, Bool.not_eq_false', Bool.and_eq_true, decide_eq_true_eq, Bool.or_eq_true] at hk'
  obtain ⟨h1, h2⟩ := hk'
  have hl : (topL k X).length = k.toNat := by omega
  rw [ins_mg (topL_srt k X)]
  rcases h2 with h2 | h2
  ·have : k.toNat = 0 := by omega
   rw [this, List.take_zero]
   exact List.length_eq_zero_iff.1 (by omega)
  ·have hn : ∀ x ∈ topL k X, uBs n x = false := by
    intro x hx
    obtain ⟨i, hi, rfl⟩ := List.getElem_of_mem hx
    obtain ⟨p, hp⟩ : ∃ p, (topL k X).length = p + 1 := ⟨(topL k X).length - 1, by omega⟩
    rw [uEs n hp] at h2
    have h2' : uBs n ((topL k X)[p]'(by omega)) = false := by simpa using h2
    exact uDm.le_tr ((topL_srt k X).get hi (by omega) (by omega)) h2'
   have := Stab.uEq (lt := uBs) _ (topL k X) [] [] [n] (Nat.le_refl _) (fun x hx y hy => by simp at hy; subst hy; exact hn x hx) (fun y hy => by cases hy)
   simp only [List.append_nil, List.nil_append, Stab.uEf, Stab.uDd] at this
   rw [this, List.take_append_of_le_length (by omega), List.take_of_length_le (by omega)]
theorem top_nil (k : Int) : topL k [] = [] := by simp [topL, uBq]
theorem top_out {k : Int} {l : List Near} {y : Near} (h : (topL k l).count y < l.count y) (h0 : 0 < (topL k l).length) : uBs y ((topL k l).getLastD y) = false := by
 obtain ⟨p, hp⟩ : ∃ p, (topL k l).length = p + 1 := ⟨(topL k l).length - 1, by omega⟩
 rw [uEs y hp]
 have hs : uBq l = topL k l ++ (uBq l).drop k.toNat := (List.take_append_drop _ _).symm
 have hc : 0 < ((uBq l).drop k.toNat).count y := by
  have := (uB8 l).count_eq y
  rw [hs, List.count_append] at this; omega
 have hy := List.count_pos_iff.1 hc
 have hp2 : (topL k l)[p]'(by omega) ∈ topL k l := List.getElem_mem _
 have hS := uDl l
 rw [hs] at hS
 exact (List.pairwise_append.1 hS).2.2 _ hp2 _ hy
structure Good (fr : List Int) (V : List (List Int)) (c : Cd) : Prop where
 e : (readV fr V c).2 = 0
 d : 0 ≤ (readV fr V c).1.1
 b : lowV c ≤ (readV fr V c).1.1
theorem top_far {k : Int} (k0 : 0 < k) : ∀ (ns X : List Near) (w : Near), ((topL k X).length : Int) = k → w = (topL k X).getLastD w → (∀ n ∈ ns, w.1 < n.1) → topL k (X ++ ns) = topL k X
 | [], X, w, _, _, _ => by rw [List.append_nil]
 | n :: ns, X, w, hl, hw, h => by
  have h1 : uBs n ((topL k X).getLastD n) = false := by
   obtain ⟨p, hp⟩ : ∃ p, (topL k X).length = p + 1 := ⟨(topL k X).length - 1, by omega⟩
   rw [uEs w hp] at hw
   rw [uEs n hp, ← hw, ← Bool.not_eq_true, uD2]
   have := h n (by simp)
   omega
  have h2 : topL k (X ++ [n]) = topL k X := by rw [← radd_top (by omega), uBr, keep_no hl (Or.inr h1)]; simp
  rw [show X ++ n :: ns = (X ++ [n]) ++ ns by simp, top_far k0 ns (X ++ [n]) w (by rw [h2]; exact hl) (by rw [h2]; exact hw) (fun m hm => h m (by simp [hm])), h2]
def TraceOk (k : Int) : Nat → List Cd → List Near → Prop
 | _, _, [] => True
 | _, [], _ :: _ => False
 | i, o :: os, r :: rs => (r.1 = o.1 ∧ ((i : Int) < k → r.2.1 = -1) ∧ (k ≤ i → 0 ≤ r.2.1 ∧ lowV o ≤ r.2.1)) ∧ TraceOk k (i + 1) os rs
theorem trace_get {k : Int} : ∀ {i : Nat} {os : List Cd} {rs : List Near}, TraceOk k i os rs → ∀ (j : Nat) (h : j < rs.length), ∃ h2 : j < os.length, rs[j].1 = os[j].1 ∧ (((i + j : Nat) : Int) < k → rs[j].2.1 = -1) ∧ (k ≤ ((i + j : Nat) : Int) → 0 ≤ rs[j].2.1 ∧ lowV os[j] ≤ rs[j].2.1)
 | _, _, [], _, j, h => by simp at h
 | _, [], _ :: _, h, _, _ => h.elim
 | i, o :: os, r :: rs, h, 0, _ => ⟨by simp, h.1⟩
 | i, o :: os, r :: rs, h, j + 1, hj => by
  obtain ⟨h2, h3⟩ := trace_get h.2 j (by simpa using hj)
  refine ⟨by simpa using h2, ?_⟩
  rw [show i + (j + 1) = i + 1 + j by omega]
  exact h3
theorem trace_lean {k : Int} : ∀ {i : Nat} {os : List Cd} {rs : List Near}, TraceOk k i os rs → leanF k i os rs = true ∧ rs.length ≤ os.length
 | _, _, [], _ => ⟨by cases ‹List Cd› <;> rfl, by simp⟩
 | _, [], _ :: _, h => h.elim
 | i, o :: os, r :: rs, h => by
  obtain ⟨h1, h2⟩ := trace_lean h.2
  obtain ⟨⟨a, b, c⟩, _⟩ := h
  refine ⟨?_, by simpa using h2⟩
  rw [leanF, show (i : Int) + 1 = ((i + 1 : Nat) : Int) by omega, h1]
  by_cases hk : (i : Int) < k
  ·rw [if_pos hk]; simp [a, b hk]
  ·rw [if_neg hk]; simp [a, (c (by omega)).2]
theorem ex_main {fr : List Int} {V : List (List Int)} {k : Int} (k0 : 0 < k) : ∀ (cs : List Cd) (X R : List Near), (∀ c ∈ cs, Good fr V c) → cs.Pairwise (fun a b => lowV a ≤ lowV b) → (∀ n ∈ X, 0 ≤ n.1) →
  ∃ T, exF fr V k cs (topL k X) R = ((topL k (X ++ cs.map fun c => (readV fr V c).1), R ++ T), 0) ∧ TraceOk k X.length cs T
 | [], X, R, _, _, _ => ⟨[], by simp [exF], trivial⟩
 | c :: cs, X, R, hG, hS, hX => by
  obtain ⟨hS1, hS2⟩ := List.pairwise_cons.1 hS
  have hg := hG c (by simp)
  have hlen := topL_len k X
  rw [exF]
  by_cases hb : (uB2 k (topL k X)).2 = true ∧ (uB2 k (topL k X)).1.1 < lowV c
  ·rw [if_pos hb]
   obtain ⟨hf, hlt⟩ := hb
   refine ⟨[], ?_, trivial⟩
   rw [uB2] at hf hlt
   split at hf
   ·cases hf
   ·rename_i hn
    rw [if_neg hn] at hlt
    have hl : ((topL k X).length : Int) = k := by omega
    rw [List.append_nil, top_far k0 _ X ((topL k X).getLastD (0, 0, ())) hl (by
     obtain ⟨p, hp⟩ : ∃ p, (topL k X).length = p + 1 := ⟨(topL k X).length - 1, by omega⟩
     rw [uEs _ hp, uEs _ hp]) (fun n hn => ?_)]
    obtain ⟨c', hc', rfl⟩ := List.mem_map.1 hn
    have h1 := (hG c' hc').b
    have h2 : lowV c ≤ lowV c' := by rcases List.mem_cons.1 hc' with rfl | h; exact Int.le_refl _; exact hS1 _ h
    have h3 : ((topL k X).getLastD (0, 0, ())).1 < lowV c := hlt
    omega
  ·rw [if_neg hb, if_neg (by simp [hg.e]), radd_top (by omega)]
   obtain ⟨T, h1, h2⟩ := ex_main k0 cs (X ++ [(readV fr V c).1]) (R ++ [(c.1, (if (uB2 k (topL k X)).2 = true then (uB2 k (topL k X)).1.1 else -1), ())]) (fun d hd => hG d (by simp [hd])) hS2 (fun n hn => by
    rcases List.mem_append.1 hn with h | h
    ·exact hX n h
    ·obtain rfl := List.mem_singleton.1 h; exact hg.d)
   refine ⟨(c.1, (if (uB2 k (topL k X)).2 = true then (uB2 k (topL k X)).1.1 else -1), ()) :: T, ?_, ⟨rfl, fun hk => ?_, fun hk => ?_⟩, by rw [List.length_append] at h2; exact h2⟩
   ·rw [h1]; simp
   ·show (if (uB2 k (topL k X)).2 = true then (uB2 k (topL k X)).1.1 else -1) = -1
    rw [if_neg]
    rw [uB2, if_pos (by omega)]; simp
   ·show 0 ≤ (if (uB2 k (topL k X)).2 = true then (uB2 k (topL k X)).1.1 else -1) ∧ lowV c ≤ (if (uB2 k (topL k X)).2 = true then (uB2 k (topL k X)).1.1 else -1)
    have hl : ((topL k X).length : Int) = k := by omega
    have hf : uB2 k (topL k X) = ((topL k X).getLastD (0, 0, ()), true) := by rw [uB2, if_neg (by omega)]
    rw [hf] at hb ⊢
    rw [if_pos rfl]
    obtain ⟨p, hp⟩ : ∃ p, (topL k X).length = p + 1 := ⟨(topL k X).length - 1, by omega⟩
    have hm : (topL k X).getLastD (0, 0, ()) ∈ X := by
     rw [uEs _ hp]
     exact (uB8 X).mem_iff.1 ((List.take_sublist _ _).mem (List.getElem_mem _))
    refine ⟨hX _ hm, ?_⟩
    have : ¬ ((topL k X).getLastD (0, 0, ())).1 < lowV c := fun h9 => hb ⟨rfl, h9⟩
    show lowV c ≤ ((topL k X).getLastD (0, 0, ())).1
    omega
theorem fu_main {fr : List Int} {V : List (List Int)} {k : Int} (k0 : 0 < k) : ∀ (cs : List Cd) (X : List Near), (∀ c ∈ cs, Good fr V c) → fuF fr V k cs (topL k X) = (topL k (X ++ cs.map fun c => (readV fr V c).1), 0)
 | [], X, _ => by simp [fuF]
 | c :: cs, X, hG => by
  have hg := hG c (by simp)
  rw [fuF, if_neg (by simp [hg.e]), radd_top (by omega), fu_main k0 cs (X ++ [(readV fr V c).1]) (fun d hd => hG d (by simp [hd]))]
  simp
theorem rerank_main {q : List Int} {V : List (List Int)} {l : List Cd} {k : Int} (hc : chkE q l k = 0) (k0 : 0 ≤ k) (hm : l.all mayC = true) (hG : ∀ c ∈ l, Good (uAv q) V c) :
  fuV q l V k = (topL k (l.map fun c => (readV (uAv q) V c).1), 0) ∧ ∃ T, exV q l V k = ((topL k (l.map fun c => (readV (uAv q) V c).1), T), 0) ∧ TraceOk k 0 (ordC l) T := by
 by_cases hk : k = 0
 ·subst hk
  rw [fuV, exV, if_pos (Or.inr rfl), if_pos (Or.inr rfl), hc]
  have e : topL 0 (l.map fun c => (readV (uAv q) V c).1) = [] := by simp [topL]
  rw [e]
  exact ⟨rfl, [], rfl, by cases ordC l <;> trivial⟩
 ·have kp : 0 < k := by omega
  have hn : ¬ (chkE q l k ≠ 0 ∨ k = 0) := by rw [hc]; rintro (h | h); exact h rfl; exact hk h
  rw [fuV, exV, if_neg hn, if_neg hn]
  have h1 := fu_main (fr := uAv q) (V := V) kp l [] hG
  have ho : ordC l = sortR l := by rw [ordC, if_pos hm]
  have hp : (sortR l).Perm l := Stab.sort_perm (lt := ltC) l
  obtain ⟨T, h2, h3⟩ := ex_main (fr := uAv q) (V := V) kp (sortR l) [] [] (fun c h => hG c (hp.mem_iff.1 h)) ((Stab.sort_srt weakC l).imp fun {a b} h => by
   have h' : ltC b a = false := h
   rw [← Bool.not_eq_true, ltC_iff] at h'; omega) (fun n h => by cases h)
  rw [top_nil] at h1 h2
  rw [List.nil_append] at h1 h2
  refine ⟨h1, T, ?_, by rw [ho]; exact h3⟩
  rw [ho, h2, topL_perm k (hp.map _)]; rfl
def I16 (l : List Int) : Prop := ∀ x ∈ l, -32768 ≤ x ∧ x < 32768
theorem wide16 {l : List Int} (h : I16 l) : uAv l = l := by
 rw [uAv]
 have e : l.map (uAa .i32) = l.map id := List.map_congr_left fun x hx => by
  have := h x hx
  exact w32 (by omega) (by omega)
 rw [e, List.map_id]
theorem cw16 {l : List Int} (h : I16 l) (h1 : 1 ≤ l.length) (h2 : l.length ≤ 1024) : cw (uAv l) = 0 := by
 rw [wide16 h, cw, if_neg (by omega), if_neg]
 rw [Bool.not_eq_true, List.any_eq_false]
 intro x hx
 have := h x hx
 simp [uDe]; omega
theorem pair16 {a b : List Int} (ha : I16 a) (hb : I16 b) (h1 : 1 ≤ a.length) (h2 : a.length ≤ 1024) (h : b.length = a.length) : pairV (uAv a) (uAv b) = 0 := by
 have e1 := cw16 ha h1 h2
 have e2 := cw16 hb (by omega) (by omega)
 rw [pairV, if_neg (by rw [e1]; simp), if_neg (by rw [e2]; simp), if_neg (by rw [wide_len, wide_len]; omega)]
noncomputable def dn (q : List Int) (V : List (List Int)) (i : Nat) : Near := (uBn (uAv q) (uAv (V.getD i [])), ((1 + i : Nat) : Int), ())
noncomputable def dnV (q : List Int) (V : List (List Int)) : List Near := (List.range V.length).map (dn q V)
theorem kn_get {q : List Int} {V : List (List Int)} {lo hi : List Int} {i : Nat} (h : i < (knV q V lo hi).length) : (knV q V lo hi)[i] = knC q lo hi i (V.getD i []) := by simp [knV]
theorem kn_mem {q : List Int} {V : List (List Int)} {lo hi : List Int} {c : Cd} (h : c ∈ knV q V lo hi) : ∃ i, i < V.length ∧ c = knC q lo hi i (V.getD i []) := by
 rw [knV] at h
 obtain ⟨i, hi', rfl⟩ := List.mem_map.1 h
 exact ⟨i, by simpa using hi', rfl⟩
theorem kn_one (q lo hi v : List Int) (i : Nat) : (knC q lo hi i v).1 = ((1 + i : Nat) : Int) ∧ (knC q lo hi i v).2.2.2.1 = (i : Int) ∧ mayC (knC q lo hi i v) = true ∧ lowV (knC q lo hi i v) ≤ uBn (uAv q) (uAv v) := by
 obtain ⟨d1, d2⟩ := dist_range (uAv q) (uAv v)
 have hmay : mayC (knC q lo hi i v) = true ∧ (knC q lo hi i v).2.1 - (knC q lo hi i v).2.2.1 ≤ uBn (uAv q) (uAv v) := by
  rw [mayC_iff, knC]
  simp only
  split
  ·obtain ⟨p1, p2⟩ := pick_range (n := Int.tmod (lo.getD i 0) 100000) (m := 50000) (by decide)
   obtain ⟨r1, r2⟩ := pick_range (n := Int.tmod (hi.getD i 0) 100000) (m := 50000) (by decide)
   simp only
   omega
  ·simp only
   omega
 refine ⟨?_, ?_, hmay.1, ?_⟩
 ·rw [knC]; simp only; split <;> rfl
 ·rw [knC]; simp only; split <;> rfl
 ·rw [may_low hmay.1]; exact hmay.2
theorem kn_may (q : List Int) (V : List (List Int)) (lo hi : List Int) : (knV q V lo hi).all mayC = true := by
 rw [List.all_eq_true]
 intro c hc
 obtain ⟨i, _, rfl⟩ := kn_mem hc
 exact (kn_one q lo hi _ i).2.2.1
theorem kn_read {q : List Int} {V : List (List Int)} {lo hi : List Int} {i : Nat} (h : i < V.length) (hq : I16 q) (hV : ∀ v ∈ V, I16 v ∧ v.length = q.length) (h1 : 1 ≤ q.length) (h2 : q.length ≤ 1024) : readV (uAv q) V (knC q lo hi i (V.getD i [])) = (dn q V i, 0) := by
 obtain ⟨a1, a2, _⟩ := kn_one q lo hi (V.getD i []) i
 have hm := hV _ (List.getElem_mem h)
 have hg : V.getD i [] = V[i] := by simp [List.getD_eq_getElem?_getD, h]
 have e := read_some (fr := uAv q) (c := knC q lo hi i (V.getD i [])) a2 h
 rw [← e, a1, dn, hg, pair16 hq hm.1 h1 h2 hm.2]
theorem kn_good {q : List Int} {V : List (List Int)} {lo hi : List Int} (hq : I16 q) (hV : ∀ v ∈ V, I16 v ∧ v.length = q.length) (h1 : 1 ≤ q.length) (h2 : q.length ≤ 1024) : ∀ c ∈ knV q V lo hi, Good (uAv q) V c := by
 intro c hc
 obtain ⟨i, hi', rfl⟩ := kn_mem hc
 have e := kn_read (lo := lo) (hi := hi) hi' hq hV h1 h2
 obtain ⟨d1, d2⟩ := dist_range (uAv q) (uAv (V.getD i []))
 exact ⟨by rw [e], by rw [e]; exact d1, by rw [e]; exact (kn_one q lo hi _ i).2.2.2⟩
theorem kn_nears {q : List Int} {V : List (List Int)} {lo hi : List Int} (hq : I16 q) (hV : ∀ v ∈ V, I16 v ∧ v.length = q.length) (h1 : 1 ≤ q.length) (h2 : q.length ≤ 1024) : (knV q V lo hi).map (fun c => (readV (uAv q) V c).1) = dnV q V := by
 rw [knV, dnV, List.map_map]
 refine List.map_congr_left fun i hi' => ?_
 show (readV (uAv q) V (knC q lo hi i (V.getD i []))).1 = dn q V i
 rw [kn_read (lo := lo) (hi := hi) (by simpa using hi') hq hV h1 h2]
theorem kn_chk {q : List Int} {V : List (List Int)} {lo hi : List Int} {k : Int} (h1 : 1 ≤ q.length) (h2 : q.length ≤ 1024) (k0 : 0 ≤ k) (k1 : k ≤ 16777216) : chkE q (knV q V lo hi) k = 0 := by
 have : vchk q q.length = 0 := by rw [vchk, if_neg (by omega)]
 rw [chkE, if_neg (by rw [this]; simp), if_neg (by rw [kn_may]; simp; omega)]
theorem dn_len (q : List Int) (V : List (List Int)) : (dnV q V).length = V.length := by simp [dnV]
theorem dn_mem {q : List Int} {V : List (List Int)} {n : Near} : n ∈ dnV q V ↔ ∃ i, i < V.length ∧ n = dn q V i := by
 rw [dnV, List.mem_map]
 exact ⟨fun ⟨i, h, e⟩ => ⟨i, by simpa using h, e.symm⟩, fun ⟨i, h, e⟩ => ⟨i, by simpa using h, e.symm⟩⟩
theorem dn_ids (q : List Int) (V : List (List Int)) : ((dnV q V).map fun n => n.2.1).Nodup := by
 rw [dnV, List.map_map]
 show ((List.range V.length).map fun i : Nat => ((1 + i : Nat) : Int)).Nodup
 exact List.Pairwise.map _ (fun a b hab e => hab (by omega)) List.nodup_range
structure TopFull (q : List Int) (V : List (List Int)) (full : List Near) : Prop where
 m : ∀ n ∈ full, ∃ i, i < V.length ∧ n = dn q V i
 s : ∀ i (h : i + 1 < full.length), full[i].1 < full[i + 1].1 ∨ full[i].1 = full[i + 1].1 ∧ full[i].2.1 < full[i + 1].2.1
 o : ∀ i, i < V.length → dn q V i ∉ full → ∀ (p : Nat) (h : p + 1 = full.length), ¬ ((dn q V i).1 < full[p].1 ∨ (dn q V i).1 = full[p].1 ∧ (dn q V i).2.1 < full[p].2.1)
theorem top_full (q : List Int) (V : List (List Int)) (k : Int) : TopFull q V (topL k (dnV q V)) where
 m n hn := dn_mem.1 ((uB8 _).mem_iff.1 ((List.take_sublist _ _).mem hn))
 s i h := by
  have h1 := (topL_srt k (dnV q V)).get (show i < _ by omega) h (by omega)
  rw [← Bool.not_eq_true, uD2] at h1
  have h2 : ((topL k (dnV q V)).map fun n => n.2.1).Nodup := by
   have : ((uBq (dnV q V)).map fun n => n.2.1).Nodup := (((uB8 (dnV q V)).map _).nodup_iff).2 (dn_ids q V)
   exact this.sublist ((List.take_sublist _ _).map _)
  have h3 : (topL k (dnV q V))[i].2.1 ≠ (topL k (dnV q V))[i + 1].2.1 := by
   intro e
   have := (List.getElem_inj (i := i) (j := i + 1) (h₀ := by rw [List.length_map]; omega) (h₁ := by rw [List.length_map]; omega) h2).1 (by rw [List.getElem_map, List.getElem_map]; exact e)
   omega
  omega
 o i hi' hn p hp := by
  have h1 : dn q V i ∈ dnV q V := dn_mem.2 ⟨i, hi', rfl⟩
  have h2 := top_out (k := k) (l := dnV q V) (y := dn q V i) (by rw [List.count_eq_zero_of_not_mem hn]; exact List.count_pos_iff.2 h1) (by omega)
  rw [uEs _ hp.symm, ← Bool.not_eq_true, uD2] at h2
  exact h2
end Go.Proofs.YteehkdejkemnmacDoor
namespace Go.Proofs.YteehkdejkemnmacDoor
open Go.Det Go.RowKit
set_option maxRecDepth 100000
noncomputable def noK : uA6 := fun _ _ _ => False
theorem noCc (f : FuncId) : CcOk PP f noK := fun _ _ _ h => h.elim
abbrev qReYt0 := Int × Int × Int × Unit × Unit × Unit × Unit
abbrev qReYt1 := qReYt0 × (Unit × Unit) × ((List Int) × Unit) × (Int × Unit × Unit) × (Unit × Unit × Unit) × (Unit × Unit × Unit) × Unit
abbrev qReYt3 := Unit × Unit × Unit × Unit × Unit × Unit × Unit × (List Cd) × Int × Int × Unit
abbrev exZLZ := qReYt3 × qReYt1
noncomputable def exZLSl : Tel qReYt3 := .cons 2 (.ptr 0) (.cons 8 (.ptr 5) (.cons 11 (.ptr 3) (.cons 13 (.fnb 23 [3]) (.cons 14 (.fnb 24 [3]) (.cons 15 (.fnp 40 [1, 2]) (.cons 16 (.ptr 4) (.cons 50 (.lst Ec) (.ji 51 (.ji 52 (.nil))))))))))
noncomputable abbrev qReYr0 := Bk.row (.ji 0 (.ji 1 (.ji 2 (.cons 3 (.nilS) (.cons 4 (.nilS) (.cons 5 (.nilS) (.nil)))))))
noncomputable abbrev qReYr1 := Bk.row (.ji 0 (.cons 1 (.nilS) (.nil)))
noncomputable abbrev qReYr2 := Bk.row (.cons 0 (.nilS) (.cons 1 (.nilS) (.nil)))
noncomputable def exZLBl : BTel qReYt1 := .cons qReYr0 (.cons (.row (.cons 0 (.ptr 0) (.nil))) (.cons (.row (.cons 0 (.lst Ei32) (.nil))) (.cons qReYr1 (.cons qReYr2 (.cons qReYr2 (.nil))))))
noncomputable def exZLFs : List (LForm exZLZ) := [⟨_, _, exZLSl, exZLBl, fun x y => (x, y)⟩]
abbrev qReY0 := Unit × Unit × Unit × Unit
abbrev qReY1 := qReYt0 × (Int × Unit × Unit) × (Unit × Unit × Unit) × (Unit × Unit × Unit) × Unit
noncomputable def exZLAlts (R0 : exZLZ → qReY0 → qReY1 → Prop) : List (Alt exZLZ) := [⟨.exit 0, qReY0, qReY1, .cons 8 (.ptr 3) (.cons 11 (.ptr 1) (.cons 16 (.ptr 2) (.nil))), .cons qReYr0 (.cons qReYr1 (.cons qReYr2 (.cons qReYr2 (.nil)))), R0⟩]
theorem exZLForm (o : List Cd) (n i d r c : Int) (f : List Int) (k : Int) (N : exZLZ → Prop) (R0 : exZLZ → qReY0 → qReY1 → Prop) : ((runW PP (KLX [(23, noK), (24, noK), (40, noK)] [] [46, 89, 27] [] []) 100).code none 9 95 (uAd PP 9 8) (mkT (exZLSl.av id ((), (), (), (), (), (), (), o, n, i, ()))) [] (stL true (exZLBl.obs id ((d, r, c, (), (), (), ()), ((), ()), (f, ()), (k, (), ()), ((), (), ()), ((), (), ()), ()))) (uCh 1 exZLFs (exZLAlts R0) (((), (), (), (), (), (), (), o, n, i, ()), (d, r, c, (), (), (), ()), ((), ()), (f, ()), (k, (), ()), ((), (), ()), ((), (), ()), ()) N)) = ( ifp (!uAf n i) (uAp i o.length ∧ ∃ x, Nt Ec (uAc i) 4 0 o x ∧ ∃ x, Nt Ec (uAc i) 4 1 o x ∧ ∃ x, Nt Ec (uAc i) 4 2 o x ∧ ∃ x, Nt Ec (uAc i) 4 3 o x ∧ False) (True ∧ true = true ∧ R0 (((), (), (), (), (), (), (), o, n, i, ()), (d, r, c, (), (), (), ()), ((), ()), (f, ()), (k, (), ()), ((), (), ()), ((), (), ()), ()) ((), (), (), ()) ((d, r, c, (), (), (), ()), (k, (), ()), ((), (), ()), ((), (), ()), ()))) := by kernel_rfl
def exZLInv : exZLZ → Prop := fun (((), (), (), (), (), (), (), o, n, i, ()), (d, r, c, (), (), (), ()), ((), ()), (f, ()), (k, (), ()), ((), (), ()), ((), (), ()), ()) => i = 0 ∧ n = 0 ∧ o = []
def exZLMu : exZLZ → Nat := fun (((), (), (), (), (), (), (), o, n, i, ()), (d, r, c, (), (), (), ()), ((), ()), (f, ()), (k, (), ()), ((), (), ()), ((), (), ()), ()) => 0
def exZLR0 : exZLZ → qReY0 → qReY1 → Prop := fun (((), (), (), (), (), (), (), o, n, i, ()), (d, r, c, (), (), (), ()), ((), ()), (f, ()), (k, (), ()), ((), (), ()), ((), (), ()), ()) _ _ => True
noncomputable def exZLC : uB5 := uC9 1 exZLFs (exZLAlts exZLR0) exZLInv
theorem exZLStep : uA3 PP (KLX [(23, noK), (24, noK), (40, noK)] [] [46, 89, 27] [] []) 100 9 95 (uAd PP 9 8) 1 true exZLFs (exZLAlts exZLR0) exZLInv exZLMu ⟨_, _, exZLSl, exZLBl, fun x y => (x, y)⟩ := by
 intro x y hz
 obtain ⟨_, _, _, _, _, _, _, o, n, i, _⟩ := x
 obtain ⟨⟨d, r, c, _, _, _, _⟩, ⟨_, _⟩, ⟨f, _⟩, ⟨k, _, _⟩, ⟨_, _, _⟩, ⟨_, _, _⟩, _⟩ := y
 refine (exZLForm o n i d r c f k _ _).mpr ?_
 obtain ⟨rfl, rfl, rfl⟩ := hz
 rw [uAe, if_neg (by decide)]
 exact ⟨trivial, rfl, trivial⟩
theorem exZLOk : uAs PP 9 95 (.loop (uAd PP 9 8)) (exZLC) := uBf exZLMu  mixed (uDp (uAi (noCc 23) (uAi (noCc 24) (uAi (noCc 40) (uAq))))) rfl (uAo exZLStep (uAx))
abbrev qReYt4 := qReYt0 × (Unit × Unit) × ((List Int) × Unit) × (Int × Unit × Unit) × Unit
abbrev fuZLZ := (Unit × Unit × Unit × (List Cd) × Int × Int × Unit) × qReYt4
noncomputable def fuZLSl : Tel (Unit × Unit × Unit × (List Cd) × Int × Int × Unit) := .cons 2 (.ptr 0) (.cons 11 (.ptr 3) (.cons 13 (.fnp 40 [1, 2]) (.cons 38 (.lst Ec) (.ji 39 (.ji 40 (.nil))))))
noncomputable def fuZLBl : BTel qReYt4 := .cons qReYr0 (.cons (.row (.cons 0 (.ptr 0) (.nil))) (.cons (.row (.cons 0 (.lst Ei32) (.nil))) (.cons qReYr1 (.nil))))
noncomputable def fuZLFs : List (LForm fuZLZ) := [⟨_, _, fuZLSl, fuZLBl, fun x y => (x, y)⟩]
abbrev qReY2 := qReYt0 × (Int × Unit × Unit) × Unit
noncomputable def fuZLAlts (R0 : fuZLZ → (Unit × Unit) → qReY2 → Prop) : List (Alt fuZLZ) := [⟨.exit 0, Unit × Unit, qReY2, .cons 11 (.ptr 1) (.nil), .cons qReYr0 (.cons qReYr1 (.nil)), R0⟩]
theorem fuZLForm (o : List Cd) (n i d r c : Int) (f : List Int) (k : Int) (N : fuZLZ → Prop) (R0 : fuZLZ → (Unit × Unit) → qReY2 → Prop) : ((runW PP (KLX [(24, noK), (40, noK)] [] [46, 89, 27] [] []) 100).code none 10 59 (uAd PP 10 7) (mkT (fuZLSl.av id ((), (), (), o, n, i, ()))) [] (stL true (fuZLBl.obs id ((d, r, c, (), (), (), ()), ((), ()), (f, ()), (k, (), ()), ()))) (uCh 1 fuZLFs (fuZLAlts R0) (((), (), (), o, n, i, ()), (d, r, c, (), (), (), ()), ((), ()), (f, ()), (k, (), ()), ()) N)) = ( ifp (!uAf n i) (uAp i o.length ∧ ∃ x, Nt Ec (uAc i) 4 0 o x ∧ ∃ x, Nt Ec (uAc i) 4 1 o x ∧ ∃ x, Nt Ec (uAc i) 4 2 o x ∧ ∃ x, Nt Ec (uAc i) 4 3 o x ∧ False) (True ∧ true = true ∧ R0 (((), (), (), o, n, i, ()), (d, r, c, (), (), (), ()), ((), ()), (f, ()), (k, (), ()), ()) ((), ()) ((d, r, c, (), (), (), ()), (k, (), ()), ()))) := by kernel_rfl
def fuZLInv : fuZLZ → Prop := fun (((), (), (), o, n, i, ()), (d, r, c, (), (), (), ()), ((), ()), (f, ()), (k, (), ()), ()) => i = 0 ∧ n = 0 ∧ o = []
def fuZLMu : fuZLZ → Nat := fun (((), (), (), o, n, i, ()), (d, r, c, (), (), (), ()), ((), ()), (f, ()), (k, (), ()), ()) => 0
def fuZLR0 : fuZLZ → (Unit × Unit) → qReY2 → Prop := fun (((), (), (), o, n, i, ()), (d, r, c, (), (), (), ()), ((), ()), (f, ()), (k, (), ()), ()) _ _ => True
noncomputable def fuZLC : uB5 := uC9 1 fuZLFs (fuZLAlts fuZLR0) fuZLInv
theorem fuZLStep : uA3 PP (KLX [(24, noK), (40, noK)] [] [46, 89, 27] [] []) 100 10 59 (uAd PP 10 7) 1 true fuZLFs (fuZLAlts fuZLR0) fuZLInv fuZLMu ⟨_, _, fuZLSl, fuZLBl, fun x y => (x, y)⟩ := by
 intro x y hz
 obtain ⟨_, _, _, o, n, i, _⟩ := x
 obtain ⟨⟨d, r, c, _, _, _, _⟩, ⟨_, _⟩, ⟨f, _⟩, ⟨k, _, _⟩, _⟩ := y
 refine (fuZLForm o n i d r c f k _ _).mpr ?_
 obtain ⟨rfl, rfl, rfl⟩ := hz
 rw [uAe, if_neg (by decide)]
 exact ⟨trivial, rfl, trivial⟩
theorem fuZLOk : uAs PP 10 59 (.loop (uAd PP 10 7)) (fuZLC) := uBf fuZLMu  mixed (uDp (uAi (noCc 24) (uAi (noCc 40) (uAq)))) rfl (uAo fuZLStep (uAx))
abbrev qReYt2 := (List Int) × (List Cd) × Unit × Int × Unit
abbrev exZZ := qReYt2 × (qReYt0 × Unit)
noncomputable def exZT : Tel qReYt2 := .cons 0 (.lst Ei16) (.cons 1 (.lst Ec) (.cons 2 (.ptr 0) (.ji 3 (.nil))))
noncomputable def exZBl : BTel (qReYt0 × Unit) := .cons qReYr0 (.nil)
abbrev qReY3 := Exa × Int × Unit
abbrev qReY4 := qReYt0 × Unit
noncomputable def exZRes (R0 : exZZ → qReY3 → qReY4 → Prop) : List (Res exZZ) := [⟨Exa × Int × Unit, qReY4, .cons 0 (.aggW Ex) (.ji 1 (.nil)), .cons qReYr0 (.nil), R0⟩]
abbrev zexZ (q : List Int) (l : List Cd) (k d r c : Int) : exZZ := ((q, l, (), k, ()), (d, r, c, (), (), (), ()), ())
theorem exZFn (q : List Int) (l : List Cd) (k d r c : Int) (R0 : exZZ → qReY3 → qReY4 → Prop) : (uA2 PP (runW PP (KLX [(31, chk2K), (29, mayK), (22, newYK), (39, wideK), (26, ordK), (28, tlistK)] [(9, [(8, exZLC)])] [46, 89, 27] [] []) 200) 9 (exZT.cells id (q, l, (), k, ())) (stL true (exZBl.obs id ((d, r, c, (), (), (), ()), ()))) (fun v st => uA1 1 (zexZ q l k d r c) v st (exZRes R0))) = ( ∃ l_1, Wv Ei16 q l_1 ∧ true = true ∧ chk2Pre ((l_1, Int.ofNat q.length, ()), ()) ∧ (∀ c_1 d_1, chk2R0 ((l_1, Int.ofNat q.length, ()), ()) c_1 d_1 → ifp (!uAf 0 k) (∃ (a : Exa), WkL [AV.nilSlice, AV.nilSlice] (Ex.f a) ∧ true = true ∧ R0 (zexZ q l k d r c) (a, 2, ()) ((d, r, c, (), (), (), ()), ())) (ifp (!uAf k 16777216) (∃ (a : Exa), WkL [AV.nilSlice, AV.nilSlice] (Ex.f a) ∧ true = true ∧ R0 (zexZ q l k d r c) (a, 2, ()) ((d, r, c, (), (), (), ()), ())) (∃ l_2, Wv Ec l l_2 ∧ mayPre (l_2, ()) ∧ ifp (l_2.all mayC) (ifp (uA0 k 0) (∃ (a : Exa), WkL [AV.nilSlice, AV.nilSlice] (Ex.f a) ∧ true = true ∧ R0 (zexZ q l k d r c) (a, 0, ()) ((d, r, c, (), (), (), ()), ())) (true = true ∧ newYPre ((k, ()), ()) ∧ (∀ c_2 d_2, newYR0 ((k, ()), ()) c_2 d_2 → ∃ l_3, Wv Ei16 q l_3 ∧ widePre (l_3, ()) ∧ ∃ l_4, Wv Ec l l_4 ∧ ordPre (l_4, ()) ∧ uAs PP 9 95 (uAd PP 9 8).loop exZLC ∧ True ∧ True ∧ ∃ l_5, Wv Ec (ordC l_4) l_5 ∧ ∃ l_6, Wv Ei32 (uAv l_3) l_6 ∧ true = true ∧ exZLInv (((), (), (), (), (), (), (), l_5, Int.ofNat (ordC l_4).length, 0, ()), (d, r, c, (), (), (), ()), ((), ()), (l_6, ()), (d_2.1.1, (), ()), ((), (), ()), ((), (), ()), ()) ∧ (∀ c_3 d_3, exZLR0 (((), (), (), (), (), (), (), l_5, Int.ofNat (ordC l_4).length, 0, ()), (d, r, c, (), (), (), ()), ((), ()), (l_6, ()), (d_2.1.1, (), ()), ((), (), ()), ((), (), ()), ()) c_3 d_3 → False ∨ true = true ∧ list0Pre (((), ()), (d_3.2.1.1, (), ()), ()) ∧ (∀ c_4 d_4, list0R0 (((), ()), (d_3.2.1.1, (), ()), ()) c_4 d_4 → ∃ (a : Exa), WkL [AV.vs (List.flatMap En.f c_4.1) c_4.1.length c_4.1.length false none 2, AV.nilSlice] (Ex.f a) ∧ true = true ∧ R0 (zexZ q l k d r c) (a, 0, ()) ((d_3.1.1, d_3.1.2.1, d_3.1.2.2.1, (), (), (), ()), ())) ∧ True) ∧ True) ∧ True)) (∃ (a : Exa), WkL [AV.nilSlice, AV.nilSlice] (Ex.f a) ∧ true = true ∧ R0 (zexZ q l k d r c) (a, 2, ()) ((d, r, c, (), (), (), ()), ()))))) ∧ (∀ c_1 d_1, chk2R1 ((l_1, Int.ofNat q.length, ()), ()) c_1 d_1 → ∃ (a : Exa), WkL [AV.nilSlice, AV.nilSlice] (Ex.f a) ∧ true = true ∧ R0 (zexZ q l k d r c) (a, Int.ofNat 2, ()) ((d, r, c, (), (), (), ()), ())) ∧ True) := by kernel_rfl
def exZPre : exZZ → Prop := fun ((q, l, (), k, ()), (d, r, c, (), (), (), ()), ()) => chkE q l k = 0 ∧ l = [] ∧ 0 ≤ k ∧ k ≤ 16777216 ∧ vchk q q.length = 0 ∧ q.length ≤ 2000
def exZR0 : exZZ → qReY3 → qReY4 → Prop := fun ((q, l, (), k, ()), (d, r, c, (), (), (), ()), ()) (y, e, _) _ => ((y.1, y.2.1), e) = exV q [] [] k
noncomputable def exZK : uA6 := uD4 1 exZT exZBl exZPre (exZRes exZR0)
theorem exZStep (z : exZZ) (hp : exZPre z) : uA2 PP (runW PP (KLX [(31, chk2K), (29, mayK), (22, newYK), (39, wideK), (26, ordK), (28, tlistK)] [(9, [(8, exZLC)])] [46, 89, 27] [] []) 200) 9 (exZT.cells id z.1) (stL true (exZBl.obs id z.2)) (fun v st => uA1 1 z v st (exZRes exZR0)) := by
 obtain ⟨⟨q, l, _, k, _⟩, ⟨⟨d, r, c, _, _, _, _⟩, _⟩⟩ := z
 refine (exZFn q l k d r c _).mpr ?_
 obtain ⟨hce, rfl, k0, k1, hv, hq⟩ := hp
 have EX : exV q [] [] k = (([], []), 0) := by
  rw [exV, hce]
  split
  ·rfl
  ·rfl
 refine ⟨q, Wk.refl _, rfl, trivial, fun c0 d0 h0 => ?_, fun c0 d0 h0 => ?_, trivial⟩
 case refine_2 => exact absurd (h0.symm.trans hv) (by decide)
 case refine_1 =>
  rw [uAe, if_neg (by omega), uAe, if_neg (by omega)]
  refine ⟨[], Wk.refl _, by show (0 : Nat) < _; decide, ?_⟩
  rw [uAj (show ([] : List Cd).all mayC = true from rfl), uCz]
  split
  ·exact ⟨([], [], ()), ⟨uBz En, uBz En, trivial⟩, rfl, EX.symm⟩
  ·refine ⟨rfl, ⟨k0, k1⟩, fun c1 d1 h1 => ?_, trivial⟩
   refine ⟨q, Wk.refl _, by show q.length ≤ 1000000; omega, [], Wk.refl _, by show (0 : Nat) ≤ 1000000; decide, exZLOk, trivial, trivial, [], Wk.refl _, uAv q, Wk.refl _, rfl, ⟨rfl, rfl, rfl⟩, fun cc dd hh => ?_, trivial⟩
   refine Or.inr ⟨rfl, trivial, fun c3 d3 h3 => ?_, trivial⟩
   obtain ⟨o3, _⟩ := c3
   obtain ⟨_, _⟩ := d3
   obtain ⟨ho, _⟩ := h3
   obtain rfl : o3 = [] := ho
   exact ⟨([], [], ()), ⟨Wk.refl _, uBz En, trivial⟩, rfl, EX.symm⟩
theorem exZCc : CcOk PP 9 exZK := uB4 mixed (uDp (uAi chk2Cc (uAi mayCc (uAi newYCc (uAi wideCc (uAi ordCc (uAi tlistCc (uAq)))))))) rfl exZStep
abbrev fuZZ := qReYt2 × qReY4
noncomputable def fuZT : Tel qReYt2 := .cons 0 (.lst Ei16) (.cons 1 (.lst Ec) (.cons 2 (.ptr 0) (.ji 3 (.nil))))
noncomputable def fuZBl : BTel qReY4 := .cons qReYr0 (.nil)
abbrev qReY5 := (List Near) × Int × Unit
noncomputable def fuZRes (R0 : fuZZ → qReY5 → (Unit) → Prop) : List (Res fuZZ) := [⟨(List Near) × Int × Unit, Unit, .cons 0 (.lst En) (.ji 1 (.nil)), .nil, R0⟩]
abbrev zfuZ (q : List Int) (l : List Cd) (k d r c : Int) : fuZZ := ((q, l, (), k, ()), (d, r, c, (), (), (), ()), ())
theorem fuZFn (q : List Int) (l : List Cd) (k d r c : Int) (R0 : fuZZ → qReY5 → (Unit) → Prop) : (uA2 PP (runW PP (KLX [(31, chk2K), (29, mayK), (22, newYK), (39, wideK), (28, tlistK)] [(10, [(7, fuZLC)])] [46, 89, 27] [] []) 200) 10 (fuZT.cells id (q, l, (), k, ())) (stL true (fuZBl.obs id ((d, r, c, (), (), (), ()), ()))) (fun v st => uA1 0 (zfuZ q l k d r c) v st (fuZRes R0))) = ( ∃ l_1, Wv Ei16 q l_1 ∧ true = true ∧ chk2Pre ((l_1, Int.ofNat q.length, ()), ()) ∧ (∀ c_1 d_1, chk2R0 ((l_1, Int.ofNat q.length, ()), ()) c_1 d_1 → ifp (!uAf 0 k) (∃ (l_2 : List Near), Wk AV.nilSlice (lst En l_2) ∧ true = true ∧ R0 (zfuZ q l k d r c) (l_2, 2, ()) ()) (ifp (!uAf k 16777216) (∃ (l_2 : List Near), Wk AV.nilSlice (lst En l_2) ∧ true = true ∧ R0 (zfuZ q l k d r c) (l_2, 2, ()) ()) (∃ l_2, Wv Ec l l_2 ∧ mayPre (l_2, ()) ∧ ifp (l_2.all mayC) (ifp (uA0 k 0) (∃ (l_3 : List Near), Wk AV.nilSlice (lst En l_3) ∧ true = true ∧ R0 (zfuZ q l k d r c) (l_3, 0, ()) ()) (true = true ∧ newYPre ((k, ()), ()) ∧ (∀ c_2 d_2, newYR0 ((k, ()), ()) c_2 d_2 → ∃ l_3, Wv Ei16 q l_3 ∧ widePre (l_3, ()) ∧ uAs PP 10 59 (uAd PP 10 7).loop fuZLC ∧ True ∧ True ∧ ∃ l_4, Wv Ec l l_4 ∧ ∃ l_5, Wv Ei32 (uAv l_3) l_5 ∧ true = true ∧ fuZLInv (((), (), (), l_4, Int.ofNat l.length, 0, ()), (d, r, c, (), (), (), ()), ((), ()), (l_5, ()), (d_2.1.1, (), ()), ()) ∧ (∀ c_3 d_3, fuZLR0 (((), (), (), l_4, Int.ofNat l.length, 0, ()), (d, r, c, (), (), (), ()), ((), ()), (l_5, ()), (d_2.1.1, (), ()), ()) c_3 d_3 → False ∨ true = true ∧ list0Pre (((), ()), (d_3.2.1.1, (), ()), ()) ∧ (∀ c_4 d_4, list0R0 (((), ()), (d_3.2.1.1, (), ()), ()) c_4 d_4 → ∃ l_6, Wv En c_4.1 l_6 ∧ true = true ∧ R0 (zfuZ q l k d r c) (l_6, 0, ()) ()) ∧ True) ∧ True) ∧ True)) (∃ (l_3 : List Near), Wk AV.nilSlice (lst En l_3) ∧ true = true ∧ R0 (zfuZ q l k d r c) (l_3, 2, ()) ())))) ∧ (∀ c_1 d_1, chk2R1 ((l_1, Int.ofNat q.length, ()), ()) c_1 d_1 → ∃ (l_2 : List Near), Wk AV.nilSlice (lst En l_2) ∧ true = true ∧ R0 (zfuZ q l k d r c) (l_2, Int.ofNat 2, ()) ()) ∧ True) := by kernel_rfl
def fuZPre : fuZZ → Prop := fun ((q, l, (), k, ()), (d, r, c, (), (), (), ()), ()) => chkE q l k = 0 ∧ l = [] ∧ 0 ≤ k ∧ k ≤ 16777216 ∧ vchk q q.length = 0 ∧ q.length ≤ 2000
def fuZR0 : fuZZ → qReY5 → (Unit) → Prop := fun ((q, l, (), k, ()), (d, r, c, (), (), (), ()), ()) (y, e, _) _ => (y, e) = fuV q [] [] k
noncomputable def fuZK : uA6 := uD4 0 fuZT fuZBl fuZPre (fuZRes fuZR0)
theorem fuZStep (z : fuZZ) (hp : fuZPre z) : uA2 PP (runW PP (KLX [(31, chk2K), (29, mayK), (22, newYK), (39, wideK), (28, tlistK)] [(10, [(7, fuZLC)])] [46, 89, 27] [] []) 200) 10 (fuZT.cells id z.1) (stL true (fuZBl.obs id z.2)) (fun v st => uA1 0 z v st (fuZRes fuZR0)) := by
 obtain ⟨⟨q, l, _, k, _⟩, ⟨⟨d, r, c, _, _, _, _⟩, _⟩⟩ := z
 refine (fuZFn q l k d r c _).mpr ?_
 obtain ⟨hce, rfl, k0, k1, hv, hq⟩ := hp
 have EX : fuV q [] [] k = ([], 0) := by
  rw [fuV, hce]
  split
  ·rfl
  ·rfl
 refine ⟨q, Wk.refl _, rfl, trivial, fun c0 d0 h0 => ?_, fun c0 d0 h0 => ?_, trivial⟩
 case refine_2 => exact absurd (h0.symm.trans hv) (by decide)
 case refine_1 =>
  rw [uAe, if_neg (by omega), uAe, if_neg (by omega)]
  refine ⟨[], Wk.refl _, by show (0 : Nat) < _; decide, ?_⟩
  rw [uAj (show ([] : List Cd).all mayC = true from rfl), uCz]
  split
  ·exact ⟨[], uBz En, rfl, EX.symm⟩
  ·refine ⟨rfl, ⟨k0, k1⟩, fun c1 d1 h1 => ?_, trivial⟩
   refine ⟨q, Wk.refl _, by show q.length ≤ 1000000; omega, fuZLOk, trivial, trivial, [], Wk.refl _, uAv q, Wk.refl _, rfl, ⟨rfl, rfl, rfl⟩, fun cc dd hh => ?_, trivial⟩
   refine Or.inr ⟨rfl, trivial, fun c3 d3 h3 => ?_, trivial⟩
   obtain ⟨o3, _⟩ := c3
   obtain ⟨_, _⟩ := d3
   obtain ⟨ho, _⟩ := h3
   obtain rfl : o3 = [] := ho
   exact ⟨[], Wk.refl _, rfl, EX.symm⟩
theorem fuZCc : CcOk PP 10 fuZK := uB4 mixed (uDp (uAi chk2Cc (uAi mayCc (uAi newYCc (uAi wideCc (uAi tlistCc (uAq))))))) rfl fuZStep
end Go.Proofs.YteehkdejkemnmacDoor
namespace Go.Proofs.YteehkdejkemnmacDoor
open Go.Det Go.RowKit
set_option maxRecDepth 100000
theorem lives21Ran : answersTrue ((run PP 1000).call 4 [] (stG 0 .u8 tab)) = true := by kernel_rfl
theorem lives21Cc {gl : Tr (List AV)} (hg : GlOk gl) : CcOk PP 4 (livesG gl) := livesG_ok mixed lives21Ran hg
def sameNTPre : (List Near) × (List Near) × Unit → Prop := fun (a, b, ()) => sameNPre (a, b, ()) ∧ (decide (a = b)) = true
noncomputable def sameNTK : uA6 := valC sameNT sameNTPre (fun _ => .bool true)
theorem sameNTCc : CcOk PP 11 sameNTK := uC2 rfl (fun ⟨a, ⟨b, _⟩⟩ h => by have := sameNVal a b h.1; rw [show sameNRes _ = .bool true from congrArg AV.bool h.2] at this; exact this)
noncomputable abbrev Ki : KEnc Int := KEnc.int .i64
abbrev Vi : VEnc Int := VEnc.int .i64
abbrev Vb : VEnc Bool := VEnc.bool
def Seen (M : Mp Int Bool) (l : List Int) : Prop := ∀ y, (M.find y).getD false = decide (y ∈ l)
theorem seen_look {M : Mp Int Bool} {l : List Int} (h : Seen M l) (y : Int) : lookIs (.int .i64 y) (M.enc Ki Vb) (.bool false) (.bool (decide (y ∈ l))) (M.find y).isSome := by
 have h1 := M.look (KE := Ki) (VE := Vb) y (.bool false)
 have h2 := h y
 cases h3 : M.find y with
 | none => rw [h3] at h1 h2; rw [← h2]; exact h1
 | some v => rw [h3] at h1 h2; rw [← h2]; exact h1
theorem seen_upd {M : Mp Int Bool} {l : List Int} (h : Seen M l) (y : Int) : Seen (M.upd y true) (l ++ [y]) := by
 intro z
 rw [Mp.upd_find]
 by_cases c : z = y
 ·rw [if_pos c]; simp [c]
 ·rw [if_neg c, h z]; simp [c]
theorem wf_i16 {x : Int} (h : (Lit.int .i16 x).wf = true) : -32768 ≤ x ∧ x < 32768 := by
 simp [Lit.wf] at h
 have h1 : (-32768 : Int) ≤ x := h.1
 have h2 : x ≤ (32767 : Int) := h.2
 omega
theorem lightV_inv {l : List (List Int)} {m n : Nat} (h : lightV l m n = true) : l.length ≤ m ∧ ∀ x ∈ l, x.length ≤ n := by
 simp only [lightV, Bool.and_eq_true, decide_eq_true_eq, List.all_eq_true] at h
 exact ⟨by omega, fun x hx => by have := h.2 x hx; omega⟩
noncomputable def exactK : uA6 := orC exNK exZK
theorem exactCc : CcOk PP 9 exactK := orC_ok exNCc exZCc
noncomputable def fullK : uA6 := orC fuNK (orC fuOK fuZK)
theorem fullCc : CcOk PP 10 fullK := orC_ok fuNCc (orC_ok fuOCc fuZCc)
abbrev qRerankExactPt4 := (List (List Int)) × (List Int) × (List Int) × (List Int) × Int × Int × Unit
abbrev xeAZ := qRerankExactPt4 × (Unit)
noncomputable def xeASl : Tel qRerankExactPt4 := .cons 0 (.lst Evl) (.cons 1 (.lst Ei16) (.cons 2 (.lst Ei64) (.cons 3 (.lst Ei64) (.ji 4 (.ji 11 (.nil))))))
noncomputable def xeABl : BTel (Unit) := .nil
noncomputable def xeAFs : List (LForm xeAZ) := [⟨_, _, xeASl, xeABl, fun x y => (x, y)⟩]
abbrev uDz := (List (List Int)) × (List Int) × (List Int) × (List Int) × Int × Unit
abbrev uA9 := Unit × Unit
noncomputable def xeAAlts (R0 : xeAZ → uDz → (Unit) → Prop) (R1 : xeAZ → uA9 → (Unit) → Prop) : List (Alt xeAZ) := [⟨.exit 0, uDz, Unit, .cons 0 (.lst Evl) (.cons 1 (.lst Ei16) (.cons 2 (.lst Ei64) (.cons 3 (.lst Ei64) (.ji 4 (.nil))))), .nil, R0⟩, ⟨.ret, Unit × Unit, Unit, .cons 10 (.con (.bool true) rfl) (.nil), .nil, R1⟩]
theorem xeAForm (V : List (List Int)) (q lo hi : List Int) (k i : Int) (N : xeAZ → Prop) (R0 : xeAZ → uDz → (Unit) → Prop) (R1 : xeAZ → uA9 → (Unit) → Prop) : ((runW PP (KL [] []) 100).code none 3 353 (uAd PP 3 6) (mkT (xeASl.av id (V, q, lo, hi, k, i, ()))) [] (stL true (xeABl.obs id ())) (uCh 0 xeAFs (xeAAlts R0 R1) ((V, q, lo, hi, k, i, ()), ()) N)) = ( ifp (!uAf (Int.ofNat V.length) i) (uAp i V.length ∧ ∃ l' n c x w e, nth ((uAc i).mul 1) (V.flatMap Evl.f) = some (AV.vs l' n c x w e) ∧ ifp (!uA0 (Int.ofNat n) (Int.ofNat q.length)) (True ∧ AV.bool true = AV.bool true ∧ true = true ∧ R1 ((V, q, lo, hi, k, i, ()), ()) ((), ()) ()) (True ∧ ∃ l, Wv Evl V l ∧ ∃ l_1, Wv Ei16 q l_1 ∧ ∃ l_2, Wv Ei64 lo l_2 ∧ ∃ l_3, Wv Ei64 hi l_3 ∧ true = true ∧ N ((l, l_1, l_2, l_3, k, uAa .i64 (i.add 1), ()), ()))) (True ∧ ∃ l, Wv Evl V l ∧ ∃ l_1, Wv Ei16 q l_1 ∧ ∃ l_2, Wv Ei64 lo l_2 ∧ ∃ l_3, Wv Ei64 hi l_3 ∧ true = true ∧ R0 ((V, q, lo, hi, k, i, ()), ()) (l, l_1, l_2, l_3, k, ()) ())) := by kernel_rfl
def xeAInv : xeAZ → Prop := fun ((V, q, lo, hi, k, i, ()), ()) => ∃ n : Nat, i = n ∧ n ≤ V.length ∧ V.length ≤ 60 ∧ ∀ j (h : j < V.length), j < n → V[j].length = q.length
def xeAMu : xeAZ → Nat := fun ((V, q, lo, hi, k, i, ()), ()) => V.length - i.toNat
def xeAR0 : xeAZ → uDz → (Unit) → Prop := fun ((V, q, lo, hi, k, i, ()), ()) (V2, q2, lo2, hi2, k2, _) _ => V2 = V ∧ q2 = q ∧ lo2 = lo ∧ hi2 = hi ∧ k2 = k ∧ ∀ v ∈ V, v.length = q.length
def xeAR1 : xeAZ → uA9 → (Unit) → Prop := fun ((V, q, lo, hi, k, i, ()), ()) _ _ => True
noncomputable def xeAC : uB5 := uC9 0 xeAFs (xeAAlts xeAR0 xeAR1) xeAInv
theorem xeAStep : uA3 PP (KL [] []) 100 3 353 (uAd PP 3 6) 0 true xeAFs (xeAAlts xeAR0 xeAR1) xeAInv xeAMu ⟨_, _, xeASl, xeABl, fun x y => (x, y)⟩ := by
 intro x y hz
 obtain ⟨V, q, lo, hi, k, i, _⟩ := x
 obtain _ := y
 refine (xeAForm V q lo hi k i _ _ _).mpr ?_
 obtain ⟨m, rfl, hm, hV, hl⟩ := hz
 rw [uAe]
 simp only [uAt]
 split
 ·rename_i h
  have hmV : m < V.length := by simpa using h
  refine ⟨uAk hmV, _, _, _, _, _, _, uA4 hmV, ?_⟩
  rw [uBu]
  split
  ·rename_i he
   have he' : V[m].length = q.length := Int.ofNat.inj he
   refine ⟨trivial, V, Wk.refl _, q, Wk.refl _, lo, Wk.refl _, hi, Wk.refl _, (by trivial), ?_⟩
   rw [uCb (by omega)]
   refine ⟨⟨m + 1, rfl, hmV, hV, fun j hj hjm => ?_⟩, by show V.length - (m + 1) < V.length - m; omega, fun _ _ h => h, fun _ _ h => h, trivial⟩
   rcases Nat.lt_or_ge j m with c | c
   ·exact hl j hj c
   ·obtain rfl : j = m := by omega
    exact he'
  ·exact ⟨trivial, (by trivial), (by trivial), trivial⟩
 ·rename_i h
  have hmV : ¬ m < V.length := by simpa using h
  refine ⟨trivial, V, Wk.refl _, q, Wk.refl _, lo, Wk.refl _, hi, Wk.refl _, (by trivial), rfl, rfl, rfl, rfl, rfl, fun v hv => ?_⟩
  obtain ⟨j, hj, rfl⟩ := List.getElem_of_mem hv
  exact hl j hj (by omega)
theorem xeAOk : uAs PP 3 353 (.loop (uAd PP 3 6)) (xeAC) := uBf xeAMu  mixed (uC8 (uAq)) rfl (uAo xeAStep (uAx))
abbrev uCv := (List Near) × (List Near) × Unit
abbrev qRerankExactPt1 := (List (List Int)) × (List Int) × Int × (List Cd) × Unit × (List Near) × Unit × Int × Int × Bool × Int × Unit
abbrev xeCZ := qRerankExactPt1 × (uCv × (Mp Int Int) × Unit)
noncomputable def xeCSl : Tel qRerankExactPt1 := .cons 0 (.lst Evl) (.cons 1 (.lst Ei16) (.ji 4 (.cons 14 (.lst Ec) (.cons 15 (.ptr 0) (.cons 17 (.lst En) (.cons 19 (.mapr 1) (.ji 20 (.ji 21 (.cons 23 (.bool) (.ji 24 (.nil)))))))))))
noncomputable abbrev uCe := Bk.row (.cons 0 (.lst En) (.cons 1 (.lst En) (.nil)))
noncomputable def xeCBl : BTel (uCv × (Mp Int Int) × Unit) := .cons uCe (.cons (.mp Ki Vi) (.nil))
noncomputable def xeCFs : List (LForm xeCZ) := [⟨_, _, xeCSl, xeCBl, fun x y => (x, y)⟩]
abbrev qRerankExactP1 := (List (List Int)) × (List Int) × Int × (List Cd) × Unit × (List Near) × Unit × Int × Int × Bool × Unit
abbrev uBh := uCv × (Mp Int Int) × Unit
noncomputable def xeCAlts (R0 : xeCZ → qRerankExactP1 → uBh → Prop) : List (Alt xeCZ) := [⟨.exit 4, qRerankExactP1, uBh, .cons 0 (.lst Evl) (.cons 1 (.lst Ei16) (.ji 4 (.cons 14 (.lst Ec) (.cons 15 (.ptr 0) (.cons 17 (.lst En) (.cons 19 (.mapr 1) (.ji 20 (.ji 21 (.cons 23 (.bool) (.nil)))))))))), .cons uCe (.cons (.mp Ki Vi) (.nil)), R0⟩]
noncomputable abbrev uEo := KLX [] [] [48] [] []
theorem xeCForm (V : List (List Int)) (q : List Int) (k : Int) (l : List Cd) (o : List Near) (i d : Int) (b : Bool) (n : Int) (p r : List Near) (M : Mp Int Int) (N : xeCZ → Prop) (R0 : xeCZ → qRerankExactP1 → uBh → Prop) : ((runW PP uEo 100).code none 3 353 (uAd PP 3 27) (mkT (xeCSl.av id (V, q, k, l, (), o, (), i, d, b, n, ()))) [] (stL true (xeCBl.obs id ((p, r, ()), M, ()))) (uCh 2 xeCFs (xeCAlts R0) ((V, q, k, l, (), o, (), i, d, b, n, ()), (p, r, ()), M, ()) N)) = ( ifp (!uAf (Int.ofNat o.length) n) (ifp b (True ∧ ∃ l_1, Wv Evl V l_1 ∧ ∃ l_2, Wv Ei16 q l_2 ∧ ∃ l_3, Wv Ec l l_3 ∧ ∃ l, Wv En o l ∧ ∃ l_4, Wv En p l_4 ∧ ∃ l_5, Wv En r l_5 ∧ ∃ (m : Mp Int Int), Mp.enc Ki Vi M = Mp.enc Ki Vi m ∧ M.clock = m.clock ∧ true = true ∧ N ((l_1, l_2, k, l_3, (), l, (), i, d, true, uAa .i64 (n.add 1), ()), (l_4, l_5, ()), m, ())) (uAp n o.length ∧ ∃ x, Nt En (uAc n) 2 0 o x ∧ ∃ x_1, Nt En (uAc n) 2 1 o x_1 ∧ uAp i l.length ∧ ∃ x_2, Nt Ec (uAc i) 4 0 l x_2 ∧ ifp (uA0 x d) (ifp (uA0 x_1 x_2) (T3 <| ∃ l_1, Wv Evl V l_1 ∧ ∃ l_2, Wv Ei16 q l_2 ∧ ∃ l_3, Wv Ec l l_3 ∧ ∃ l, Wv En o l ∧ ∃ l_4, Wv En p l_4 ∧ ∃ l_5, Wv En r l_5 ∧ ∃ (m : Mp Int Int), Mp.enc Ki Vi M = Mp.enc Ki Vi m ∧ M.clock = m.clock ∧ true = true ∧ N ((l_1, l_2, k, l_3, (), l, (), i, d, true, uAa .i64 (n.add 1), ()), (l_4, l_5, ()), m, ())) (T3 <| ∃ l_1, Wv Evl V l_1 ∧ ∃ l_2, Wv Ei16 q l_2 ∧ ∃ l_3, Wv Ec l l_3 ∧ ∃ l, Wv En o l ∧ ∃ l_4, Wv En p l_4 ∧ ∃ l_5, Wv En r l_5 ∧ ∃ (m : Mp Int Int), Mp.enc Ki Vi M = Mp.enc Ki Vi m ∧ M.clock = m.clock ∧ true = true ∧ N ((l_1, l_2, k, l_3, (), l, (), i, d, false, uAa .i64 (n.add 1), ()), (l_4, l_5, ()), m, ()))) (T3 <| ∃ l_1, Wv Evl V l_1 ∧ ∃ l_2, Wv Ei16 q l_2 ∧ ∃ l_3, Wv Ec l l_3 ∧ ∃ l, Wv En o l ∧ ∃ l_4, Wv En p l_4 ∧ ∃ l_5, Wv En r l_5 ∧ ∃ (m : Mp Int Int), Mp.enc Ki Vi M = Mp.enc Ki Vi m ∧ M.clock = m.clock ∧ true = true ∧ N ((l_1, l_2, k, l_3, (), l, (), i, d, false, uAa .i64 (n.add 1), ()), (l_4, l_5, ()), m, ())))) (True ∧ ∃ l_1, Wv Evl V l_1 ∧ ∃ l_2, Wv Ei16 q l_2 ∧ ∃ l_3, Wv Ec l l_3 ∧ ∃ l_4, Wv En o l_4 ∧ ∃ l_5, Wv En p l_5 ∧ ∃ l_6, Wv En r l_6 ∧ ∃ (m : Mp Int Int), Mp.enc Ki Vi M = Mp.enc Ki Vi m ∧ M.clock = m.clock ∧ true = true ∧ R0 ((V, q, k, l, (), o, (), i, d, b, n, ()), (p, r, ()), M, ()) (l_1, l_2, k, l_3, (), l_4, (), i, d, b, ()) ((l_5, l_6, ()), m, ()))) := by kernel_rfl
def xeCInv : xeCZ → Prop := fun ((V, q, k, l, (), o, (), i, d, b, n, ()), (p, r, ()), M, ()) => ∃ m j : Nat, n = m ∧ m ≤ o.length ∧ o.length ≤ 60 ∧ i = j ∧ j < l.length
def xeCMu : xeCZ → Nat := fun ((V, q, k, l, (), o, (), i, d, b, n, ()), (p, r, ()), M, ()) => o.length - n.toNat
def xeCR0 : xeCZ → qRerankExactP1 → uBh → Prop := fun ((V, q, k, l, (), o, (), i, d, b, n, ()), (p, r, ()), M, ()) (V2, q2, k2, l2, _, o2, _, i2, d2, b2, _) ((p2, r2, _), M2, _) => V2 = V ∧ q2 = q ∧ k2 = k ∧ l2 = l ∧ o2 = o ∧ i2 = i ∧ d2 = d ∧ p2 = p ∧ r2 = r ∧ M2 = M ∧ (b2 = true ↔ b = true ∨ (d, (l.getD i.toNat (0, 0, 0, 0, ())).1, ()) ∈ o.drop n.toNat)
noncomputable def xeCC : uB5 := uC9 2 xeCFs (xeCAlts xeCR0) xeCInv
theorem xeCStep : uA3 PP uEo 100 3 353 (uAd PP 3 27) 2 true xeCFs (xeCAlts xeCR0) xeCInv xeCMu ⟨_, _, xeCSl, xeCBl, fun x y => (x, y)⟩ := by
 intro x y hz
 obtain ⟨V, q, k, l, _, o, _, i, d, b, n, _⟩ := x
 obtain ⟨⟨p, r, _⟩, M, _⟩ := y
 refine (xeCForm V q k l o i d b n p r M _ _).mpr ?_
 obtain ⟨m, j, rfl, hm, ho, rfl, hj⟩ := hz
 have hg : l.getD j (0, 0, 0, 0, ()) = l[j] := by simp [List.getD_eq_getElem?_getD, hj]
 rw [uAe]
 simp only [uAt]
 split
 ·rename_i h
  have hmo : m < o.length := by simpa using h
  have hd := uBx hmo
  cases b with
  | true =>
   rw [uAj rfl]
   refine ⟨trivial, V, Wk.refl _, q, Wk.refl _, l, Wk.refl _, o, Wk.refl _, p, Wk.refl _, r, Wk.refl _, M, rfl, rfl, (by trivial), ?_⟩
   rw [uCb (by omega)]
   refine ⟨⟨m + 1, j, rfl, hmo, ho, rfl, hj⟩, by show o.length - (m + 1) < o.length - m; omega, fun cc dd hh => ?_, trivial⟩
   obtain ⟨V2, q2, k2, l2, _, o2, _, i2, d2, b2, _⟩ := cc
   obtain ⟨⟨p2, r2, _⟩, M2, _⟩ := dd
   obtain ⟨g1, g2, g3, g4, g5, g6, g7, g8, g9, g10, gb⟩ := hh
   refine ⟨g1, g2, g3, g4, g5, g6, g7, g8, g9, g10, gb.trans ?_⟩
   show true = true ∨ (d, (l.getD j (0, 0, 0, 0, ())).1, ()) ∈ o.drop (m + 1) ↔ true = true ∨ (d, (l.getD j (0, 0, 0, 0, ())).1, ()) ∈ o.drop m
   rw [hd, hg]
   simp
  | false =>
   rw [uDn rfl]
   refine ⟨uAk hmo, _, uCy hmo, _, uD1 hmo, uAk hj, _, nth_cd0 hj, ?_⟩
   rw [uCz]
   split
   ·rename_i e1
    rw [uCz]
    split
    ·rename_i e2
     refine ⟨trivial, trivial, trivial, V, Wk.refl _, q, Wk.refl _, l, Wk.refl _, o, Wk.refl _, p, Wk.refl _, r, Wk.refl _, M, rfl, rfl, (by trivial), ?_⟩
     rw [uCb (by omega)]
     refine ⟨⟨m + 1, j, rfl, hmo, ho, rfl, hj⟩, by show o.length - (m + 1) < o.length - m; omega, fun cc dd hh => ?_, trivial⟩
     obtain ⟨V2, q2, k2, l2, _, o2, _, i2, d2, b2, _⟩ := cc
     obtain ⟨⟨p2, r2, _⟩, M2, _⟩ := dd
     obtain ⟨g1, g2, g3, g4, g5, g6, g7, g8, g9, g10, gb⟩ := hh
     refine ⟨g1, g2, g3, g4, g5, g6, g7, g8, g9, g10, gb.trans ?_⟩
     show true = true ∨ (d, (l.getD j (0, 0, 0, 0, ())).1, ()) ∈ o.drop (m + 1) ↔ false = true ∨ (d, (l.getD j (0, 0, 0, 0, ())).1, ()) ∈ o.drop m
     rw [hd, hg]
     have e : (d, l[j].1, ()) = o[m] := Prod.ext e1.symm (Prod.ext e2.symm rfl)
     exact ⟨fun _ => Or.inr (List.mem_cons.2 (Or.inl e)), fun _ => Or.inl rfl⟩
    ·rename_i e2
     refine ⟨trivial, trivial, trivial, V, Wk.refl _, q, Wk.refl _, l, Wk.refl _, o, Wk.refl _, p, Wk.refl _, r, Wk.refl _, M, rfl, rfl, (by trivial), ?_⟩
     rw [uCb (by omega)]
     refine ⟨⟨m + 1, j, rfl, hmo, ho, rfl, hj⟩, by show o.length - (m + 1) < o.length - m; omega, fun cc dd hh => ?_, trivial⟩
     obtain ⟨V2, q2, k2, l2, _, o2, _, i2, d2, b2, _⟩ := cc
     obtain ⟨⟨p2, r2, _⟩, M2, _⟩ := dd
     obtain ⟨g1, g2, g3, g4, g5, g6, g7, g8, g9, g10, gb⟩ := hh
     refine ⟨g1, g2, g3, g4, g5, g6, g7, g8, g9, g10, gb.trans ?_⟩
     show false = true ∨ (d, (l.getD j (0, 0, 0, 0, ())).1, ()) ∈ o.drop (m + 1) ↔ false = true ∨ (d, (l.getD j (0, 0, 0, 0, ())).1, ()) ∈ o.drop m
     rw [hd, hg]
     have e : (d, l[j].1, ()) ≠ o[m] := fun e => e2 (by rw [← e])
     exact ⟨fun h9 => Or.inr (List.mem_cons.2 (Or.inr (h9.resolve_left (by simp)))), fun h9 => Or.inr ((List.mem_cons.1 (h9.resolve_left (by simp))).resolve_left e)⟩
   ·rename_i e1
    refine ⟨trivial, trivial, trivial, V, Wk.refl _, q, Wk.refl _, l, Wk.refl _, o, Wk.refl _, p, Wk.refl _, r, Wk.refl _, M, rfl, rfl, (by trivial), ?_⟩
    rw [uCb (by omega)]
    refine ⟨⟨m + 1, j, rfl, hmo, ho, rfl, hj⟩, by show o.length - (m + 1) < o.length - m; omega, fun cc dd hh => ?_, trivial⟩
    obtain ⟨V2, q2, k2, l2, _, o2, _, i2, d2, b2, _⟩ := cc
    obtain ⟨⟨p2, r2, _⟩, M2, _⟩ := dd
    obtain ⟨g1, g2, g3, g4, g5, g6, g7, g8, g9, g10, gb⟩ := hh
    refine ⟨g1, g2, g3, g4, g5, g6, g7, g8, g9, g10, gb.trans ?_⟩
    show false = true ∨ (d, (l.getD j (0, 0, 0, 0, ())).1, ()) ∈ o.drop (m + 1) ↔ false = true ∨ (d, (l.getD j (0, 0, 0, 0, ())).1, ()) ∈ o.drop m
    rw [hd, hg]
    have e : (d, l[j].1, ()) ≠ o[m] := fun e => e1 (by rw [← e])
    exact ⟨fun h9 => Or.inr (List.mem_cons.2 (Or.inr (h9.resolve_left (by simp)))), fun h9 => Or.inr ((List.mem_cons.1 (h9.resolve_left (by simp))).resolve_left e)⟩
 ·rename_i h
  have hmo : ¬ m < o.length := by simpa using h
  refine ⟨trivial, V, Wk.refl _, q, Wk.refl _, l, Wk.refl _, o, Wk.refl _, p, Wk.refl _, r, Wk.refl _, M, rfl, rfl, (by trivial), rfl, rfl, rfl, rfl, rfl, rfl, rfl, rfl, rfl, rfl, ?_⟩
  show b = true ↔ b = true ∨ _ ∈ o.drop m
  rw [List.drop_of_length_le (by omega)]; simp
theorem xeCOk : uAs PP 3 353 (.loop (uAd PP 3 27)) (xeCC) := uBf xeCMu  mixed (uDp (uAq)) rfl (uAo xeCStep (uAx))
abbrev qRerankExactPt2 := (List (List Int)) × (List Int) × Int × (List Cd) × Unit × (List Near) × Unit × Int × Unit
abbrev xeBZ := qRerankExactPt2 × uBh
noncomputable def xeBSl : Tel qRerankExactPt2 := .cons 0 (.lst Evl) (.cons 1 (.lst Ei16) (.ji 4 (.cons 14 (.lst Ec) (.cons 15 (.ptr 0) (.cons 17 (.lst En) (.cons 19 (.mapr 1) (.ji 20 (.nil))))))))
noncomputable def xeBBl : BTel uBh := .cons uCe (.cons (.mp Ki Vi) (.nil))
noncomputable def xeBFs : List (LForm xeBZ) := [⟨_, _, xeBSl, xeBBl, fun x y => (x, y)⟩]
abbrev qRerankExactP3 := Int × (List Cd) × Unit × (List Near) × Unit × Unit
noncomputable def xeBAlts (R0 : xeBZ → qRerankExactP3 → uBh → Prop) (R1 : xeBZ → uA9 → (Unit) → Prop) : List (Alt xeBZ) := [⟨.exit 2, qRerankExactP3, uBh, .ji 4 (.cons 14 (.lst Ec) (.cons 15 (.ptr 0) (.cons 17 (.lst En) (.cons 19 (.mapr 1) (.nil))))), .cons uCe (.cons (.mp Ki Vi) (.nil)), R0⟩, ⟨.ret, Unit × Unit, Unit, .cons 10 (.con (.bool false) rfl) (.nil), .nil, R1⟩]
theorem xeBForm (V : List (List Int)) (q : List Int) (k : Int) (l : List Cd) (o : List Near) (i : Int) (p r : List Near) (M : Mp Int Int) (N : xeBZ → Prop) (R0 : xeBZ → qRerankExactP3 → uBh → Prop) (R1 : xeBZ → uA9 → (Unit) → Prop) : ((runW PP (KLX [(14, rwideK), (13, rdistK)] [(3, [(27, xeCC)])] [48] [] []) 100).code none 3 353 (uAd PP 3 21) (mkT (xeBSl.av id (V, q, k, l, (), o, (), i, ()))) [] (stL true (xeBBl.obs id ((p, r, ()), M, ()))) (uCh 0 xeBFs (xeBAlts R0 R1) ((V, q, k, l, (), o, (), i, ()), (p, r, ()), M, ()) N)) = ( ifp (!uAf (Int.ofNat l.length) i) (∃ l_1, Wv Ei16 q l_1 ∧ rwidePre (l_1, ()) ∧ uAp i V.length ∧ ∃ l' n c x w e, nth ((uAc i).mul 1) (V.flatMap Evl.f) = some (AV.vs l' n c x w e) ∧ ∃ (l_2 : List Int), Wk (AV.vs l' n c x w e) (lst Ei16 l_2) ∧ rwidePre (l_2, ()) ∧ ∃ l_3, Wv Ei32 (uAv l_1) l_3 ∧ ∃ l_4, Wv Ei32 (uAv l_2) l_4 ∧ rdistPre (l_3, l_4, ()) ∧ ((∃ (l'_1 : List AV), ∃ (n_1 : Nat), ∃ (c_1 : Nat), ∃ (x_1 : Bool), ∃ (w_1 : Option Nat), ∃ (e_1 : Nat), nth ((uAc i).mul 1) (V.flatMap Evl.f) = some (AV.vs l'_1 n_1 c_1 x_1 w_1 e_1) ∧ AV.vs l'_1 n_1 c_1 x_1 w_1 e_1 = AV.vs l' n c x w e) ∧ True) ∧ uAp i l.length ∧ ∃ x, Nt Ec (uAc i) 4 0 l x ∧ ∃ (es' : List AEntry), ∃ (c' : Nat), updIs (I64 x) (I64 (uBn l_3 l_4)) (Mp.enc Ki Vi M) M.clock es' c' ∧ uAs PP 3 353 (uAd PP 3 27).loop xeCC ∧ True ∧ True ∧ ∃ l_5, Wv Evl V l_5 ∧ ∃ l_6, Wv Ei16 q l_6 ∧ ∃ l_7, Wv Ec l l_7 ∧ ∃ l_8, Wv En o l_8 ∧ ∃ l_9, Wv En p l_9 ∧ ∃ l_10, Wv En r l_10 ∧ ∃ (m : Mp Int Int), es' = Mp.enc Ki Vi m ∧ c' = m.clock ∧ true = true ∧ xeCInv ((l_5, l_6, k, l_7, (), l_8, (), i, uBn l_3 l_4, false, 0, ()), (l_9, l_10, ()), m, ()) ∧ (∀ c d, xeCR0 ((l_5, l_6, k, l_7, (), l_8, (), i, uBn l_3 l_4, false, 0, ()), (l_9, l_10, ()), m, ()) c d → ifp c.2.2.2.2.2.2.2.2.2.1 (True ∧ ∃ l, Wv Evl c.1 l ∧ ∃ l_11, Wv Ei16 c.2.1 l_11 ∧ ∃ l_12, Wv Ec c.2.2.2.1 l_12 ∧ ∃ l_13, Wv En c.2.2.2.2.2.1 l_13 ∧ ∃ l_14, Wv En d.1.1 l_14 ∧ ∃ l_15, Wv En d.1.2.1 l_15 ∧ ∃ (m : Mp Int Int), Mp.enc Ki Vi d.2.1 = Mp.enc Ki Vi m ∧ d.2.1.clock = m.clock ∧ true = true ∧ N ((l, l_11, c.2.2.1, l_12, (), l_13, (), uAa .i64 (c.2.2.2.2.2.2.2.1.add 1), ()), (l_14, l_15, ()), m, ())) (ifp (!uAf (Int.ofNat c.2.2.2.2.2.1.length) 0) (uAp (uAa .i64 ((Int.ofNat c.2.2.2.2.2.1.length).sub 1)) c.2.2.2.2.2.1.length ∧ ∃ x : Int, nth (((uAc (uAa .i64 ((Int.ofNat c.2.2.2.2.2.1.length).sub 1))).mul 2).add 0) (List.flatMap En.f c.2.2.2.2.2.1) = some (I64 x) ∧ ifp (!uAf x c.2.2.2.2.2.2.2.2.1) (T4 <| AV.bool false = AV.bool false ∧ true = true ∧ R1 ((V, q, k, l, (), o, (), i, ()), (p, r, ()), M, ()) ((), ()) ()) (uAp (uAa .i64 ((Int.ofNat c.2.2.2.2.2.1.length).sub 1)) c.2.2.2.2.2.1.length ∧ ∃ x : Int, nth (((uAc (uAa .i64 ((Int.ofNat c.2.2.2.2.2.1.length).sub 1))).mul 2).add 0) (List.flatMap En.f c.2.2.2.2.2.1) = some (I64 x) ∧ ifp (uA0 c.2.2.2.2.2.2.2.2.1 x) (uAp c.2.2.2.2.2.2.2.1 c.2.2.2.1.length ∧ ∃ x, Nt Ec (uAc c.2.2.2.2.2.2.2.1) 4 0 c.2.2.2.1 x ∧ uAp (uAa .i64 ((Int.ofNat c.2.2.2.2.2.1.length).sub 1)) c.2.2.2.2.2.1.length ∧ ∃ x_1 : Int, nth (((uAc (uAa .i64 ((Int.ofNat c.2.2.2.2.2.1.length).sub 1))).mul 2).add 1) (List.flatMap En.f c.2.2.2.2.2.1) = some (I64 x_1) ∧ ifp (!uAf x_1 x) (T9 <| AV.bool false = AV.bool false ∧ true = true ∧ R1 ((V, q, k, l, (), o, (), i, ()), (p, r, ()), M, ()) ((), ()) ()) (T9 <| ∃ l, Wv Evl c.1 l ∧ ∃ l_11, Wv Ei16 c.2.1 l_11 ∧ ∃ l_12, Wv Ec c.2.2.2.1 l_12 ∧ ∃ l_13, Wv En c.2.2.2.2.2.1 l_13 ∧ ∃ l_14, Wv En d.1.1 l_14 ∧ ∃ l_15, Wv En d.1.2.1 l_15 ∧ ∃ (m : Mp Int Int), Mp.enc Ki Vi d.2.1 = Mp.enc Ki Vi m ∧ d.2.1.clock = m.clock ∧ true = true ∧ N ((l, l_11, c.2.2.1, l_12, (), l_13, (), uAa .i64 (c.2.2.2.2.2.2.2.1.add 1), ()), (l_14, l_15, ()), m, ()))) (T6 <| ∃ l, Wv Evl c.1 l ∧ ∃ l_11, Wv Ei16 c.2.1 l_11 ∧ ∃ l_12, Wv Ec c.2.2.2.1 l_12 ∧ ∃ l_13, Wv En c.2.2.2.2.2.1 l_13 ∧ ∃ l_14, Wv En d.1.1 l_14 ∧ ∃ l_15, Wv En d.1.2.1 l_15 ∧ ∃ (m : Mp Int Int), Mp.enc Ki Vi d.2.1 = Mp.enc Ki Vi m ∧ d.2.1.clock = m.clock ∧ true = true ∧ N ((l, l_11, c.2.2.1, l_12, (), l_13, (), uAa .i64 (c.2.2.2.2.2.2.2.1.add 1), ()), (l_14, l_15, ()), m, ())))) (True ∧ True ∧ ∃ l, Wv Evl c.1 l ∧ ∃ l_11, Wv Ei16 c.2.1 l_11 ∧ ∃ l_12, Wv Ec c.2.2.2.1 l_12 ∧ ∃ l_13, Wv En c.2.2.2.2.2.1 l_13 ∧ ∃ l_14, Wv En d.1.1 l_14 ∧ ∃ l_15, Wv En d.1.2.1 l_15 ∧ ∃ (m : Mp Int Int), Mp.enc Ki Vi d.2.1 = Mp.enc Ki Vi m ∧ d.2.1.clock = m.clock ∧ true = true ∧ N ((l, l_11, c.2.2.1, l_12, (), l_13, (), uAa .i64 (c.2.2.2.2.2.2.2.1.add 1), ()), (l_14, l_15, ()), m, ())))) ∧ True) (True ∧ ∃ l_1, Wv Ec l l_1 ∧ ∃ l_2, Wv En o l_2 ∧ ∃ l_3, Wv En p l_3 ∧ ∃ l_4, Wv En r l_4 ∧ ∃ (m : Mp Int Int), Mp.enc Ki Vi M = Mp.enc Ki Vi m ∧ M.clock = m.clock ∧ true = true ∧ R0 ((V, q, k, l, (), o, (), i, ()), (p, r, ()), M, ()) (k, l_1, (), l_2, (), ()) ((l_3, l_4, ()), m, ()))) := by kernel_rfl
def xeBInv : xeBZ → Prop := fun ((V, q, k, l, (), o, (), i, ()), (p, r, ()), M, ()) => ∃ n : Nat, ∃ lo hi : List Int, i = n ∧ n ≤ V.length ∧ V.length ≤ 60 ∧ q.length ≤ 1000 ∧ (∀ v ∈ V, v.length ≤ 1000) ∧ l = knV q V lo hi ∧ TopFull q V o ∧ o.length ≤ 60 ∧ (∀ j, j < n → M.find ((1 + j : Nat) : Int) = some (dn q V j).1) ∧ M.clock ≤ n
def xeBMu : xeBZ → Nat := fun ((V, q, k, l, (), o, (), i, ()), (p, r, ()), M, ()) => V.length - i.toNat
def xeBR0 : xeBZ → qRerankExactP3 → uBh → Prop := fun ((V, q, k, l, (), o, (), i, ()), (p, r, ()), M, ()) (k2, l2, _, o2, _, _) ((p2, r2, _), M2, _) => k2 = k ∧ l2 = l ∧ o2 = o ∧ p2 = p ∧ r2 = r ∧ ∀ j, j < V.length → M2.find ((1 + j : Nat) : Int) = some (dn q V j).1
def xeBR1 : xeBZ → uA9 → (Unit) → Prop := fun ((V, q, k, l, (), o, (), i, ()), (p, r, ()), M, ()) _ _ => False
noncomputable def xeBC : uB5 := uC9 0 xeBFs (xeBAlts xeBR0 xeBR1) xeBInv
theorem xeBStep : uA3 PP (KLX [(14, rwideK), (13, rdistK)] [(3, [(27, xeCC)])] [48] [] []) 100 3 353 (uAd PP 3 21) 0 true xeBFs (xeBAlts xeBR0 xeBR1) xeBInv xeBMu ⟨_, _, xeBSl, xeBBl, fun x y => (x, y)⟩ := by
 intro x y hz
 obtain ⟨V, q, k, l, _, o, _, i, _⟩ := x
 obtain ⟨⟨p, r, _⟩, M, _⟩ := y
 refine (xeBForm V q k l o i p r M _ _ _).mpr ?_
 obtain ⟨n, lo, hi, rfl, hn, hV, hq, hv, hlk, hT, ho, hM, hc⟩ := hz
 have hll : l.length = V.length := by rw [hlk, kn_len]
 rw [uAe]
 simp only [uAt]
 split
 ·rename_i h
  have hnl : n < l.length := by simpa using h
  have hnV : n < V.length := by omega
  have hg : V.getD n [] = V[n] := by simp [List.getD_eq_getElem?_getD, hnV]
  have hl0 : l[n] = knC q lo hi n (V.getD n []) := (List.getElem_of_eq hlk hnl).trans (kn_get _)
  have hl1 : l[n].1 = ((1 + n : Nat) : Int) := by rw [hl0]; exact (kn_one q lo hi _ n).1
  have hgl : l.getD n (0, 0, 0, 0, ()) = l[n] := by simp [List.getD_eq_getElem?_getD, hnl]
  have hdn : dn q V n = (uBn (uAv q) (uAv V[n]), ((1 + n : Nat) : Int), ()) := by rw [dn, hg]
  refine ⟨q, Wk.refl _, by show q.length ≤ 1000000; omega, uAk hnV, _, _, _, _, _, _, uA4 hnV, V[n], Wk.refl _, by have := hv _ (List.getElem_mem hnV); show _ ≤ 1000000; omega, uAv q, Wk.refl _, uAv V[n], Wk.refl _, trivial, ⟨⟨_, _, _, _, _, _, uA4 hnV, rfl⟩, trivial⟩, uAk hnl, _, nth_cd0 hnl, _, _, M.upd_is (KE := Ki) (VE := Vi) l[n].1 (uBn (uAv q) (uAv V[n])), xeCOk, trivial, trivial, V, Wk.refl _, q, Wk.refl _, l, Wk.refl _, o, Wk.refl _, p, Wk.refl _, r, Wk.refl _, M.upd l[n].1 (uBn (uAv q) (uAv V[n])), rfl, rfl, (by trivial), ⟨0, n, rfl, Nat.zero_le _, ho, rfl, hnl⟩, fun c d hr => ?_, trivial⟩
  obtain ⟨V2, q2, k2, l2, _, o2, _, i2, d2, b2, _⟩ := c
  obtain ⟨⟨p2, r2, _⟩, M2, _⟩ := d
  obtain ⟨g1, g2, g3, g4, g5, g6, g7, g8, g9, g10, gb⟩ := hr
  obtain rfl : V = V2 := g1.symm
  obtain rfl : q = q2 := g2.symm
  obtain rfl : k = k2 := g3.symm
  obtain rfl : l = l2 := g4.symm
  obtain rfl : o = o2 := g5.symm
  obtain rfl : i2 = (n : Int) := g6
  obtain rfl : p = p2 := g8.symm
  obtain rfl : r = r2 := g9.symm
  have gM : M2 = M.upd l[n].1 (uBn (uAv q) (uAv V[n])) := g10
  have gd : d2 = uBn (uAv q) (uAv V[n]) := g7
  have hM2 : ∀ j, j < n + 1 → M2.find ((1 + j : Nat) : Int) = some (dn q V j).1 := fun j hj => by
   rw [gM, Mp.upd_find, hl1]
   by_cases c : j = n
   ·subst c; rw [if_pos rfl, hdn]
   ·rw [if_neg (by omega)]; exact hM j (by omega)
  have hc2 : M2.clock ≤ n + 1 := by rw [gM]; have := M.upd_clock_le l[n].1 (uBn (uAv q) (uAv V[n])); omega
  have gb' : b2 = true ↔ dn q V n ∈ o := by
   have h9 : b2 = true ↔ false = true ∨ (uBn (uAv q) (uAv V[n]), (l.getD n (0, 0, 0, 0, ())).1, ()) ∈ o.drop 0 := gb
   rw [h9, hgl, hl1, hdn, List.drop_zero]; simp
  dsimp only
  cases hb : b2 with
  | true =>
   rw [uAj rfl]
   refine ⟨trivial, V, Wk.refl _, q, Wk.refl _, l, Wk.refl _, o, Wk.refl _, p, Wk.refl _, r, Wk.refl _, M2, rfl, rfl, (by trivial), ?_⟩
   rw [uCb (by omega)]
   exact ⟨⟨n + 1, lo, hi, rfl, hnV, hV, hq, hv, hlk, hT, ho, hM2, hc2⟩, by show V.length - (n + 1) < V.length - n; omega, fun _ _ h => h, fun _ _ h => h, trivial⟩
  | false =>
   rw [uDn rfl]
   have hnm : dn q V n ∉ o := fun h9 => by have := gb'.2 h9; rw [hb] at this; cases this
   rw [uAe]
   split
   ·rename_i h0
    have h0' : 0 < o.length := by simpa using h0
    have hp : o.length - 1 < o.length := by omega
    have e1 : uAa .i64 ((Int.ofNat o.length).sub 1) = ((o.length - 1 : Nat) : Int) := by rw [show (Int.ofNat o.length).sub 1 = Int.sub (o.length : Int) 1 from rfl, wsub (by omega) (by omega)]; omega
    have hO := hT.o n hnV hnm (o.length - 1) (by omega)
    rw [hdn] at hO
    simp only [e1, uAt]
    simp only at hO
    refine ⟨uAk hp, _, uCy hp, ?_⟩
    rw [uAe, if_neg (by omega)]
    refine ⟨uAk hp, _, uCy hp, ?_⟩
    rw [uCz]
    split
    ·refine ⟨uAk hnl, _, nth_cd0 hnl, uAk hp, _, uD1 hp, ?_⟩
     rw [uAe, if_neg (by rw [hl1]; omega)]
     refine ⟨trivial, trivial, trivial, trivial, trivial, trivial, trivial, trivial, trivial, V, Wk.refl _, q, Wk.refl _, l, Wk.refl _, o, Wk.refl _, p, Wk.refl _, r, Wk.refl _, M2, rfl, rfl, (by trivial), ?_⟩
     rw [uCb (by omega)]
     exact ⟨⟨n + 1, lo, hi, rfl, hnV, hV, hq, hv, hlk, hT, ho, hM2, hc2⟩, by show V.length - (n + 1) < V.length - n; omega, fun _ _ h => h, fun _ _ h => h, trivial⟩
    ·skip
     refine ⟨trivial, trivial, trivial, trivial, trivial, trivial, V, Wk.refl _, q, Wk.refl _, l, Wk.refl _, o, Wk.refl _, p, Wk.refl _, r, Wk.refl _, M2, rfl, rfl, (by trivial), ?_⟩
     rw [uCb (by omega)]
     exact ⟨⟨n + 1, lo, hi, rfl, hnV, hV, hq, hv, hlk, hT, ho, hM2, hc2⟩, by show V.length - (n + 1) < V.length - n; omega, fun _ _ h => h, fun _ _ h => h, trivial⟩
   ·skip
    refine ⟨trivial, trivial, V, Wk.refl _, q, Wk.refl _, l, Wk.refl _, o, Wk.refl _, p, Wk.refl _, r, Wk.refl _, M2, rfl, rfl, (by trivial), ?_⟩
    rw [uCb (by omega)]
    exact ⟨⟨n + 1, lo, hi, rfl, hnV, hV, hq, hv, hlk, hT, ho, hM2, hc2⟩, by show V.length - (n + 1) < V.length - n; omega, fun _ _ h => h, fun _ _ h => h, trivial⟩
 ·rename_i h
  have hnl : ¬ n < l.length := by simpa using h
  refine ⟨trivial, l, Wk.refl _, o, Wk.refl _, p, Wk.refl _, r, Wk.refl _, M, rfl, rfl, (by trivial), rfl, rfl, rfl, rfl, rfl, fun j hj => hM j (by omega)⟩
theorem xeBOk : uAs PP 3 353 (.loop (uAd PP 3 21)) (xeBC) := uBf xeBMu  mixed (uDp (uAi rwideCc (uAi rdistCc (uAq)))) rfl (uAo xeBStep (uAx))
abbrev qRerankExactPt5 := Int × (List Cd) × Unit × (List Near) × Unit × Int × Unit
abbrev xeDZ := qRerankExactPt5 × uBh
noncomputable def xeDSl : Tel qRerankExactPt5 := .ji 4 (.cons 14 (.lst Ec) (.cons 15 (.ptr 0) (.cons 17 (.lst En) (.cons 19 (.mapr 1) (.ji 25 (.nil))))))
noncomputable def xeDBl : BTel uBh := .cons uCe (.cons (.mp Ki Vi) (.nil))
noncomputable def xeDFs : List (LForm xeDZ) := [⟨_, _, xeDSl, xeDBl, fun x y => (x, y)⟩]
abbrev qRerankExactP4 := Int × (List Cd) × Unit × Unit
abbrev qRerankExactP5 := uCv × Unit
noncomputable def xeDAlts (R0 : xeDZ → qRerankExactP4 → qRerankExactP5 → Prop) (R1 : xeDZ → uA9 → (Unit) → Prop) : List (Alt xeDZ) := [⟨.exit 6, qRerankExactP4, qRerankExactP5, .ji 4 (.cons 14 (.lst Ec) (.cons 15 (.ptr 0) (.nil))), .cons uCe (.nil), R0⟩, ⟨.ret, Unit × Unit, Unit, .cons 10 (.con (.bool false) rfl) (.nil), .nil, R1⟩]
theorem xeDForm (k : Int) (l : List Cd) (o : List Near) (i : Int) (p r : List Near) (M : Mp Int Int) (N : xeDZ → Prop) (R0 : xeDZ → qRerankExactP4 → qRerankExactP5 → Prop) (R1 : xeDZ → uA9 → (Unit) → Prop) : ((runW PP uEo 100).code none 3 353 (uAd PP 3 33) (mkT (xeDSl.av id (k, l, (), o, (), i, ()))) [] (stL true (xeDBl.obs id ((p, r, ()), M, ()))) (uCh 0 xeDFs (xeDAlts R0 R1) ((k, l, (), o, (), i, ()), (p, r, ()), M, ()) N)) = ( ifp (!uAf (Int.ofNat o.length) i) (uAp i o.length ∧ ∃ x, Nt En (uAc i) 2 1 o x ∧ ∃ (c : Bool), ∃ x_1 : Int, lookIs (I64 x) (Mp.enc Ki Vi M) (I64 0) (I64 x_1) c ∧ uAp i o.length ∧ ∃ x, Nt En (uAc i) 2 0 o x ∧ ifp (!uA0 x_1 x) (T4 <| AV.bool false = AV.bool false ∧ true = true ∧ R1 ((k, l, (), o, (), i, ()), (p, r, ()), M, ()) ((), ()) ()) (ifp (!uAf i 0) (uAp (uAa .i64 (i.sub 1)) o.length ∧ ∃ x, Nt En (uAc (uAa .i64 (i.sub 1))) 2 0 o x ∧ uAp i o.length ∧ ∃ x_2, Nt En (uAc i) 2 0 o x_2 ∧ ifp (!uAf x x_2) (T6 <| AV.bool false = AV.bool false ∧ true = true ∧ R1 ((k, l, (), o, (), i, ()), (p, r, ()), M, ()) ((), ()) ()) (uAp (uAa .i64 (i.sub 1)) o.length ∧ ∃ x, Nt En (uAc (uAa .i64 (i.sub 1))) 2 0 o x ∧ uAp i o.length ∧ ∃ x_3, Nt En (uAc i) 2 0 o x_3 ∧ ifp (uA0 x x_3) (uAp (uAa .i64 (i.sub 1)) o.length ∧ ∃ x, Nt En (uAc (uAa .i64 (i.sub 1))) 2 1 o x ∧ uAp i o.length ∧ ∃ x_4, Nt En (uAc i) 2 1 o x_4 ∧ ifp (uAf x_4 x) (T10 <| AV.bool false = AV.bool false ∧ true = true ∧ R1 ((k, l, (), o, (), i, ()), (p, r, ()), M, ()) ((), ()) ()) (T10 <| ∃ l_1, Wv Ec l l_1 ∧ ∃ l, Wv En o l ∧ ∃ l_2, Wv En p l_2 ∧ ∃ l_3, Wv En r l_3 ∧ ∃ (m : Mp Int Int), Mp.enc Ki Vi M = Mp.enc Ki Vi m ∧ M.clock = m.clock ∧ true = true ∧ N ((k, l_1, (), l, (), uAa .i64 (i.add 1), ()), (l_2, l_3, ()), m, ()))) (T8 <| ∃ l_1, Wv Ec l l_1 ∧ ∃ l, Wv En o l ∧ ∃ l_2, Wv En p l_2 ∧ ∃ l_3, Wv En r l_3 ∧ ∃ (m : Mp Int Int), Mp.enc Ki Vi M = Mp.enc Ki Vi m ∧ M.clock = m.clock ∧ true = true ∧ N ((k, l_1, (), l, (), uAa .i64 (i.add 1), ()), (l_2, l_3, ()), m, ())))) (T4 <| ∃ l_1, Wv Ec l l_1 ∧ ∃ l, Wv En o l ∧ ∃ l_2, Wv En p l_2 ∧ ∃ l_3, Wv En r l_3 ∧ ∃ (m : Mp Int Int), Mp.enc Ki Vi M = Mp.enc Ki Vi m ∧ M.clock = m.clock ∧ true = true ∧ N ((k, l_1, (), l, (), uAa .i64 (i.add 1), ()), (l_2, l_3, ()), m, ())))) (True ∧ ∃ l_1, Wv Ec l l_1 ∧ ∃ l_2, Wv En p l_2 ∧ ∃ l_3, Wv En r l_3 ∧ true = true ∧ R0 ((k, l, (), o, (), i, ()), (p, r, ()), M, ()) (k, l_1, (), ()) ((l_2, l_3, ()), ()))) := by kernel_rfl
def xeDInv : xeDZ → Prop := fun ((k, l, (), o, (), i, ()), (p, r, ()), M, ()) => ∃ n : Nat, ∃ q V, i = n ∧ n ≤ o.length ∧ o.length ≤ 60 ∧ TopFull q V o ∧ V.length ≤ 60 ∧ (∀ j, j < V.length → M.find ((1 + j : Nat) : Int) = some (dn q V j).1)
def xeDMu : xeDZ → Nat := fun ((k, l, (), o, (), i, ()), (p, r, ()), M, ()) => o.length - i.toNat
def xeDR0 : xeDZ → qRerankExactP4 → qRerankExactP5 → Prop := fun ((k, l, (), o, (), i, ()), (p, r, ()), M, ()) (k2, l2, _, _) ((p2, r2, _), _) => k2 = k ∧ l2 = l ∧ p2 = p ∧ r2 = r
def xeDR1 : xeDZ → uA9 → (Unit) → Prop := fun ((k, l, (), o, (), i, ()), (p, r, ()), M, ()) _ _ => False
noncomputable def xeDC : uB5 := uC9 0 xeDFs (xeDAlts xeDR0 xeDR1) xeDInv
theorem xeDStep : uA3 PP uEo 100 3 353 (uAd PP 3 33) 0 true xeDFs (xeDAlts xeDR0 xeDR1) xeDInv xeDMu ⟨_, _, xeDSl, xeDBl, fun x y => (x, y)⟩ := by
 intro x y hz
 obtain ⟨k, l, _, o, _, i, _⟩ := x
 obtain ⟨⟨p, r, _⟩, M, _⟩ := y
 refine (xeDForm k l o i p r M _ _ _).mpr ?_
 obtain ⟨n, q, V, rfl, hn, ho, hT, hV, hM⟩ := hz
 rw [uAe]
 simp only [uAt]
 split
 ·rename_i h
  have hno : n < o.length := by simpa using h
  obtain ⟨j, hj, e⟩ := hT.m _ (List.getElem_mem hno)
  have e1 : o[n].1 = (dn q V j).1 := by rw [e]
  have e2 : o[n].2.1 = ((1 + j : Nat) : Int) := by rw [e]; rfl
  have hlook : lookIs (.int .i64 o[n].2.1) (M.enc Ki Vi) (.int .i64 0) (.int .i64 (dn q V j).1) true := by rw [e2]; exact Mp.look_some (KE := Ki) (VE := Vi) (hM j hj) (.int .i64 0)
  refine ⟨uAk hno, _, uD1 hno, _, _, hlook, uAk hno, _, uCy hno, ?_⟩
  rw [uBu, if_pos e1.symm, uAe]
  split
  ·rename_i h0
   have h0' : 0 < n := by omega
   have eq1 : uAa .i64 (Int.sub (n : Int) 1) = ((n - 1 : Nat) : Int) := by rw [wsub (by omega) (by omega)]; omega
   have hn1 : n - 1 < o.length := by omega
   have hs := hT.s (n - 1) (by omega)
   have eqq : o[n - 1 + 1]'(by omega) = o[n] := by congr 1; omega
   rw [eqq] at hs
   simp only [eq1, uAt]
   refine ⟨uAk hn1, _, uCy hn1, uAk hno, _, uCy hno, ?_⟩
   rw [uAe, if_neg (by omega)]
   refine ⟨uAk hn1, _, uCy hn1, uAk hno, _, uCy hno, ?_⟩
   rw [uCz]
   split
   ·refine ⟨uAk hn1, _, uD1 hn1, uAk hno, _, uD1 hno, ?_⟩
    rw [uEg, if_neg (by omega)]
    refine ⟨trivial, trivial, trivial, trivial, trivial, trivial, trivial, trivial, trivial, trivial, l, Wk.refl _, o, Wk.refl _, p, Wk.refl _, r, Wk.refl _, M, rfl, rfl, (by trivial), ?_⟩
    rw [uCb (by omega)]
    exact ⟨⟨n + 1, q, V, rfl, hno, ho, hT, hV, hM⟩, by show o.length - (n + 1) < o.length - n; omega, fun _ _ h => h, fun _ _ h => h, trivial⟩
   ·skip
    refine ⟨trivial, trivial, trivial, trivial, trivial, trivial, trivial, trivial, l, Wk.refl _, o, Wk.refl _, p, Wk.refl _, r, Wk.refl _, M, rfl, rfl, (by trivial), ?_⟩
    rw [uCb (by omega)]
    exact ⟨⟨n + 1, q, V, rfl, hno, ho, hT, hV, hM⟩, by show o.length - (n + 1) < o.length - n; omega, fun _ _ h => h, fun _ _ h => h, trivial⟩
  ·skip
   refine ⟨trivial, trivial, trivial, trivial, l, Wk.refl _, o, Wk.refl _, p, Wk.refl _, r, Wk.refl _, M, rfl, rfl, (by trivial), ?_⟩
   rw [uCb (by omega)]
   exact ⟨⟨n + 1, q, V, rfl, hno, ho, hT, hV, hM⟩, by show o.length - (n + 1) < o.length - n; omega, fun _ _ h => h, fun _ _ h => h, trivial⟩
 ·rename_i h
  exact ⟨trivial, l, Wk.refl _, p, Wk.refl _, r, Wk.refl _, (by trivial), rfl, rfl, rfl, rfl⟩
theorem xeDOk : uAs PP 3 353 (.loop (uAd PP 3 33)) (xeDC) := uBf xeDMu  mixed (uDp (uAq)) rfl (uAo xeDStep (uAx))
abbrev xeEZ := (Int × (List Cd) × Unit × Unit × Int × Unit) × (uCv × (Mp Int Bool) × Unit)
noncomputable def xeESl : Tel (Int × (List Cd) × Unit × Unit × Int × Unit) := .ji 4 (.cons 14 (.lst Ec) (.cons 15 (.ptr 0) (.cons 26 (.mapr 1) (.ji 27 (.nil)))))
noncomputable def xeEBl : BTel (uCv × (Mp Int Bool) × Unit) := .cons uCe (.cons (.mp Ki Vb) (.nil))
noncomputable def xeEFs : List (LForm xeEZ) := [⟨_, _, xeESl, xeEBl, fun x y => (x, y)⟩]
noncomputable def xeEAlts (R0 : xeEZ → (Unit) → (Unit) → Prop) (R1 : xeEZ → uA9 → (Unit) → Prop) : List (Alt xeEZ) := [⟨.exit 8, Unit, Unit, .nil, .nil, R0⟩, ⟨.ret, Unit × Unit, Unit, .cons 10 (.con (.bool false) rfl) (.nil), .nil, R1⟩]
abbrev zxeEF (k : Int) (l : List Cd) (i : Int) (p r : List Near) (M : Mp Int Bool) : xeEZ := ((k, l, (), (), i, ()), (p, r, ()), M, ())
theorem xeEForm (k : Int) (l : List Cd) (i : Int) (p r : List Near) (M : Mp Int Bool) (N : xeEZ → Prop) (R0 : xeEZ → (Unit) → (Unit) → Prop) (R1 : xeEZ → uA9 → (Unit) → Prop) : ((runW PP (KLX [] [] [55] [] []) 100).code none 3 353 (uAd PP 3 39) (mkT (xeESl.av id (k, l, (), (), i, ()))) [] (stL true (xeEBl.obs id ((p, r, ()), M, ()))) (uCh 0 xeEFs (xeEAlts R0 R1) (zxeEF k l i p r M) N)) = ( ifp (!uAf (Int.ofNat r.length) i) (uAp i r.length ∧ ∃ x, Nt En (uAc i) 2 0 r x ∧ ifp (!uAf 1 x) (True ∧ AV.bool false = AV.bool false ∧ true = true ∧ R1 (zxeEF k l i p r M) ((), ()) ()) (uAp i r.length ∧ ∃ x, Nt En (uAc i) 2 0 r x ∧ ifp (!uAf x (Int.ofNat l.length)) (True ∧ AV.bool false = AV.bool false ∧ true = true ∧ R1 (zxeEF k l i p r M) ((), ()) ()) (uAp i r.length ∧ ∃ x, Nt En (uAc i) 2 0 r x ∧ uAp (uAa .i64 (x.sub 1)) l.length ∧ ∃ x_1, Nt Ec (uAc (uAa .i64 (x.sub 1))) 4 0 l x_1 ∧ ∃ x_2, Nt Ec (uAc (uAa .i64 (x.sub 1))) 4 1 l x_2 ∧ ∃ x_3, Nt Ec (uAc (uAa .i64 (x.sub 1))) 4 2 l x_3 ∧ ∃ x_4, Nt Ec (uAc (uAa .i64 (x.sub 1))) 4 3 l x_4 ∧ ∃ (c : Bool), ∃ (b : Bool), lookIs (I64 x_1) (Mp.enc Ki Vb M) (AV.bool false) (AV.bool b) c ∧ ifp b (T3 <| AV.bool false = AV.bool false ∧ true = true ∧ R1 (zxeEF k l i p r M) ((), ()) ()) (uAp i r.length ∧ ∃ x, Nt En (uAc i) 2 1 r x ∧ ifp (uAf 0 x) (uAp i r.length ∧ ∃ x, Nt En (uAc i) 2 1 r x ∧ ifp (!uAf (uAa .i64 (x_2.sub x_3)) x) (T9 <| AV.bool false = AV.bool false ∧ true = true ∧ R1 (zxeEF k l i p r M) ((), ()) ()) (ifp (!uAf k i) (uAp i r.length ∧ ∃ x, Nt En (uAc i) 2 1 r x ∧ ifp (uA0 x (-1)) (T10 <| ∃ (es' : List AEntry), ∃ (c' : Nat), updIs (I64 x_1) (AV.bool true) (Mp.enc Ki Vb M) M.clock es' c' ∧ True ∧ ∃ l_1, Wv Ec l l_1 ∧ ∃ l, Wv En p l ∧ ∃ l_2, Wv En r l_2 ∧ ∃ (m : Mp Int Bool), es' = Mp.enc Ki Vb m ∧ c' = m.clock ∧ true = true ∧ N ((k, l_1, (), (), uAa .i64 (i.add 1), ()), (l, l_2, ()), m, ())) (T11 <| AV.bool false = AV.bool false ∧ true = true ∧ R1 (zxeEF k l i p r M) ((), ()) ())) (uAp i r.length ∧ ∃ x, Nt En (uAc i) 2 1 r x ∧ ifp (uA0 x (-1)) (T11 <| AV.bool false = AV.bool false ∧ true = true ∧ R1 (zxeEF k l i p r M) ((), ()) ()) (T10 <| ∃ (es' : List AEntry), ∃ (c' : Nat), updIs (I64 x_1) (AV.bool true) (Mp.enc Ki Vb M) M.clock es' c' ∧ True ∧ ∃ l_1, Wv Ec l l_1 ∧ ∃ l, Wv En p l ∧ ∃ l_2, Wv En r l_2 ∧ ∃ (m : Mp Int Bool), es' = Mp.enc Ki Vb m ∧ c' = m.clock ∧ true = true ∧ N ((k, l_1, (), (), uAa .i64 (i.add 1), ()), (l, l_2, ()), m, ()))))) (ifp (!uAf k i) (uAp i r.length ∧ ∃ x, Nt En (uAc i) 2 1 r x ∧ ifp (uA0 x (-1)) (T6 <| ∃ (es' : List AEntry), ∃ (c' : Nat), updIs (I64 x_1) (AV.bool true) (Mp.enc Ki Vb M) M.clock es' c' ∧ True ∧ ∃ l_1, Wv Ec l l_1 ∧ ∃ l, Wv En p l ∧ ∃ l_2, Wv En r l_2 ∧ ∃ (m : Mp Int Bool), es' = Mp.enc Ki Vb m ∧ c' = m.clock ∧ true = true ∧ N ((k, l_1, (), (), uAa .i64 (i.add 1), ()), (l, l_2, ()), m, ())) (T7 <| AV.bool false = AV.bool false ∧ true = true ∧ R1 (zxeEF k l i p r M) ((), ()) ())) (uAp i r.length ∧ ∃ x, Nt En (uAc i) 2 1 r x ∧ ifp (uA0 x (-1)) (T7 <| AV.bool false = AV.bool false ∧ true = true ∧ R1 (zxeEF k l i p r M) ((), ()) ()) (T6 <| ∃ (es' : List AEntry), ∃ (c' : Nat), updIs (I64 x_1) (AV.bool true) (Mp.enc Ki Vb M) M.clock es' c' ∧ True ∧ ∃ l_1, Wv Ec l l_1 ∧ ∃ l, Wv En p l ∧ ∃ l_2, Wv En r l_2 ∧ ∃ (m : Mp Int Bool), es' = Mp.enc Ki Vb m ∧ c' = m.clock ∧ true = true ∧ N ((k, l_1, (), (), uAa .i64 (i.add 1), ()), (l, l_2, ()), m, ())))))))) (True ∧ true = true ∧ R0 (zxeEF k l i p r M) () ())) := by kernel_rfl
def xeEInv : xeEZ → Prop := fun ((k, l, (), (), i, ()), (p, r, ()), M, ()) => ∃ n : Nat, i = n ∧ n ≤ r.length ∧ r.length ≤ 60 ∧ l.length ≤ 60 ∧ 0 ≤ k ∧ (∀ j (h : j < l.length), l[j].1 = ((1 + j : Nat) : Int)) ∧ l.all mayC = true ∧ TraceOk k 0 (ordC l) r ∧ Seen M ((r.take n).map (fun x => x.1)) ∧ M.clock ≤ n
def xeEMu : xeEZ → Nat := fun ((k, l, (), (), i, ()), (p, r, ()), M, ()) => r.length - i.toNat
def xeER0 : xeEZ → (Unit) → (Unit) → Prop := fun ((k, l, (), (), i, ()), (p, r, ()), M, ()) _ _ => True
def xeER1 : xeEZ → uA9 → (Unit) → Prop := fun ((k, l, (), (), i, ()), (p, r, ()), M, ()) _ _ => False
noncomputable def xeEC : uB5 := uC9 0 xeEFs (xeEAlts xeER0 xeER1) xeEInv
theorem xeEStep : uA3 PP (KLX [] [] [55] [] []) 100 3 353 (uAd PP 3 39) 0 true xeEFs (xeEAlts xeER0 xeER1) xeEInv xeEMu ⟨_, _, xeESl, xeEBl, fun x y => (x, y)⟩ := by
 intro x y hz
 obtain ⟨k, l, _, _, i, _⟩ := x
 obtain ⟨⟨p, r, _⟩, M, _⟩ := y
 refine (xeEForm k l i p r M _ _ _).mpr ?_
 obtain ⟨n, rfl, hn, hr, hl, hk, hid, hmay, hTr, hS, hc⟩ := hz
 rw [uAe]
 simp only [uAt]
 split
 ·rename_i h
  have hnr : n < r.length := by simpa using h
  obtain ⟨h2, e1, e2, e3⟩ := trace_get hTr n hnr
  rw [Nat.zero_add] at e2 e3
  obtain ⟨j, hj, ej⟩ := List.getElem_of_mem (ordC_mem (List.getElem_mem h2))
  rw [← ej] at e1 e3
  have eid : r[n].1 = ((1 + j : Nat) : Int) := by rw [e1, hid j hj]
  have hnin : r[n].1 ∉ (r.take n).map (fun x => x.1) := by
   intro h9
   obtain ⟨y, hy, ey⟩ := List.mem_map.1 h9
   obtain ⟨i, hi, e⟩ := List.getElem_of_mem hy
   rw [List.length_take] at hi
   rw [List.getElem_take] at e
   obtain ⟨i2, f1, _⟩ := trace_get hTr i (by omega)
   have hnd : ((ordC l).map fun x => x.1).Nodup := by
    rw [ordC, if_pos hmay]
    refine (((Stab.sort_perm (lt := ltC) l).map _).nodup_iff).2 ?_
    rw [List.Nodup, List.pairwise_map, List.pairwise_iff_getElem]
    intro a b ha hb hab e
    rw [hid a ha, hid b hb] at e; omega
   have := (List.getElem_inj (i := i) (j := n) (h₀ := by rw [List.length_map]; omega) (h₁ := by rw [List.length_map]; omega) hnd).1 (by rw [List.getElem_map, List.getElem_map, ← f1, e, ey, e1, ej])
   omega
  have hlook := seen_look hS l[j].1
  rw [← e1, decide_eq_false hnin] at hlook
  have hS2 : Seen (M.upd l[j].1 true) ((r.take (n + 1)).map fun x => x.1) := by
   rw [← List.take_append_getElem hnr, List.map_append, ← e1]; exact seen_upd hS _
  have hc2 : (M.upd l[j].1 true).clock ≤ n + 1 := by have := M.upd_clock_le l[j].1 true; omega
  have eq1 : uAa .i64 (Int.sub r[n].1 1) = (j : Int) := by rw [eid, wsub (by omega) (by omega)]; omega
  refine ⟨uAk hnr, _, nth_nr0 hnr, ?_⟩
  rw [uAe, if_neg (by rw [eid]; omega)]
  refine ⟨uAk hnr, _, nth_nr0 hnr, ?_⟩
  rw [uAe, if_neg (by rw [eid, Int.ofNat_eq_natCast]; omega)]
  refine ⟨uAk hnr, _, nth_nr0 hnr, ?_⟩
  simp only [eq1, uAt]
  refine ⟨uAk hj, _, nth_cd0 hj, _, nth_cd1 hj, _, nth_cd2 hj, _, nth_cd3 hj, _, _, (by rw [← e1]; exact hlook), ?_⟩
  rw [uDn rfl]
  refine ⟨uAk hnr, _, nth_nr1 hnr, ?_⟩
  rw [uEg]
  split
  ·rename_i hw
   have hkn : ¬ (n : Int) < k := fun h9 => by have := e2 h9; omega
   obtain ⟨e4, e5⟩ := e3 (by omega)
   refine ⟨uAk hnr, _, nth_nr1 hnr, ?_⟩
   have e6 : uAa .i64 (Int.sub l[j].2.1 l[j].2.2.1) ≤ r[n].2.1 := e5
   rw [uAe, if_neg (by omega), uAe, if_neg (by omega)]
   refine ⟨uAk hnr, _, nth_nr1 hnr, ?_⟩
   rw [uCz, if_neg (by omega)]
   refine ⟨trivial, trivial, trivial, trivial, trivial, trivial, trivial, trivial, trivial, trivial, _, _, M.upd_is (KE := Ki) (VE := Vb) l[j].1 true, trivial, l, Wk.refl _, p, Wk.refl _, r, Wk.refl _, M.upd l[j].1 true, rfl, rfl, (by trivial), ?_⟩
   rw [uCb (by omega)]
   exact ⟨⟨n + 1, rfl, hnr, hr, hl, hk, hid, hmay, hTr, hS2, hc2⟩, by show r.length - (n + 1) < r.length - n; omega, fun _ _ h => h, fun _ _ h => h, trivial⟩
  ·rename_i hw
   have hkn : (n : Int) < k := by
    rcases Int.lt_or_le (n : Int) k with h9 | h9
    ·exact h9
    ·exact absurd (e3 h9).1 hw
   rw [uAe, if_pos (by omega)]
   refine ⟨uAk hnr, _, nth_nr1 hnr, ?_⟩
   rw [uCz, if_pos (e2 hkn)]
   refine ⟨trivial, trivial, trivial, trivial, trivial, trivial, _, _, M.upd_is (KE := Ki) (VE := Vb) l[j].1 true, trivial, l, Wk.refl _, p, Wk.refl _, r, Wk.refl _, M.upd l[j].1 true, rfl, rfl, (by trivial), ?_⟩
   rw [uCb (by omega)]
   exact ⟨⟨n + 1, rfl, hnr, hr, hl, hk, hid, hmay, hTr, hS2, hc2⟩, by show r.length - (n + 1) < r.length - n; omega, fun _ _ h => h, fun _ _ h => h, trivial⟩
 ·rename_i h
  exact ⟨trivial, (by trivial), trivial⟩
theorem xeEOk : uAs PP 3 353 (.loop (uAd PP 3 39)) (xeEC) := uBf xeEMu  mixed (uDp (uAq)) rfl (uAo xeEStep (uAx))
noncomputable def rerankExactT : Tel uDz := .cons 0 (.lst Evl) (.cons 1 (.lst Ei16) (.cons 2 (.lst Ei64) (.cons 3 (.lst Ei64) (.ji 4 (.nil)))))
abbrev uCc : List Sh := [.slice (.slice (.int .i16)), .slice (.int .i16), .slice (.int .i64), .slice (.int .i64), .int .i64]
theorem rerankExactFn (gl : Tr (List AV)) (V : List (List Int)) (q lo hi : List Int) (k : Int) : (uA2 PP (runW PP (KLX [(4, livesG gl), (5, light16K), (6, putGK gl), (7, pickK), (8, knownK), (9, exactK), (10, fullK), (11, sameNTK), (12, leanK)] [(3, [(6, xeAC), (21, xeBC), (33, xeDC), (39, xeEC)])] [46, 89, 27, 23, 48, 55] [(3, [17])] []) 300) 3 (rerankExactT.cells id (V, q, lo, hi, k, ())) (stBg true gl) (fun v _ => yesQ v)) = ( gl = gl ∧ true = true ∧ True ∧ (∀ (c : Unit × Unit) (d : Unit), True → ∃ l, Wv Evl V l ∧ light16Pre (l, 60, 16, ()) ∧ ifp (lightV l 60 16) (ifp (!uAf 1 (Int.ofNat q.length)) True (ifp (!uAf (Int.ofNat q.length) 16) True (uAs PP 3 353 (uAd PP 3 6).loop xeAC ∧ True ∧ True ∧ ∃ l, Wv Evl V l ∧ ∃ l_1, Wv Ei16 q l_1 ∧ ∃ l_2, Wv Ei64 lo l_2 ∧ ∃ l_3, Wv Ei64 hi l_3 ∧ true = true ∧ xeAInv ((l, l_1, l_2, l_3, k, 0, ()), ()) ∧ (∀ c d, xeAR0 ((l, l_1, l_2, l_3, k, 0, ()), ()) c d → gl = gl ∧ ∃ l, Wv Evl c.1 l ∧ true = true ∧ putGPre ((Int.ofNat c.2.1.length, l, ()), ()) ∧ (∀ c_1 d, putGR0 ((Int.ofNat c.2.1.length, l, ()), ()) c_1 d → True) ∧ (∀ c_1 d, putGR1 ((Int.ofNat c.2.1.length, l, ()), ()) c_1 d → pickPre (c.2.2.2.2.1, 65, ()) ∧ ∃ l, Wv Ei16 c.2.1 l ∧ ∃ l_4, Wv Evl c.1 l_4 ∧ ∃ l_5, Wv Ei64 c.2.2.1 l_5 ∧ ∃ l_6, Wv Ei64 c.2.2.2.1 l_6 ∧ knownPre (l, l_4, l_5, l_6, ()) ∧ ((∃ l_7, Wv Ei16 c.2.1 l_7 ∧ ∃ l_8, Wv Ec (knV l l_4 l_5 l_6) l_8 ∧ ∃ l_9, Sa Eu64 d.2.1 l_9 ∧ ∃ l_10, Sa Ei16 d.2.2.1 l_10 ∧ true = true ∧ exNPre ((l_7, l_8, (), uAu c.2.2.2.2.1 65, ()), (d.1.1, d.1.2.1, d.1.2.2.1, d.1.2.2.2.1, d.1.2.2.2.2.1, (), ()), l_9, l_10, ()) ∧ (∀ c_2 d_1, exNR0 ((l_7, l_8, (), uAu c.2.2.2.2.1 65, ()), (d.1.1, d.1.2.1, d.1.2.2.1, d.1.2.2.2.1, d.1.2.2.2.2.1, (), ()), l_9, l_10, ()) c_2 d_1 → (∃ l_11, Wv Ei16 c.2.1 l_11 ∧ ∃ l_12, Wv Ec (knV l l_4 l_5 l_6) l_12 ∧ ∃ l_13, Sa Eu64 d_1.2.1 l_13 ∧ ∃ l_14, Sa Ei16 d_1.2.2.1 l_14 ∧ true = true ∧ fuNPre ((l_11, l_12, (), uAu c.2.2.2.2.1 65, ()), (d_1.1.1, d_1.1.2.1, d_1.1.2.2.1, d_1.1.2.2.2.1, d_1.1.2.2.2.2.1, (), ()), l_13, l_14, ()) ∧ (∀ c_3 d, fuNR0 ((l_11, l_12, (), uAu c.2.2.2.2.1 65, ()), (d_1.1.1, d_1.1.2.1, d_1.1.2.2.1, d_1.1.2.2.2.1, d_1.1.2.2.2.2.1, (), ()), l_13, l_14, ()) c_3 d → c_2.2.1 = 0 ∧ c_3.2.1 = 0 ∧ ∃ l_15, Wv En c_2.1.1 l_15 ∧ ∃ l_16, Wv En c_3.1 l_16 ∧ sameNTPre (l_15, l_16, ()) ∧ Int.ofNat c_3.1.length = ifb (uAf (uAu c.2.2.2.2.1 65) (Int.ofNat (knV l l_4 l_5 l_6).length)) (uAu c.2.2.2.2.1 65) (Int.ofNat (knV l l_4 l_5 l_6).length) ∧ ∃ l_17, Wv Ec (knV l l_4 l_5 l_6) l_17 ∧ ∃ (a : Exa), WkL [AV.vs (List.flatMap En.f c_2.1.1) c_2.1.1.length c_2.1.1.length false none 2, AV.vs (List.flatMap En.f c_2.1.2.1) c_2.1.2.1.length c_2.1.2.1.length false none 2] (Ex.f a) ∧ leanPre (l_17, a, uAu c.2.2.2.2.1 65, ()) ∧ ifp (!leanV l_17 a.2.1 (uAu c.2.2.2.2.1 65)) False (uAs PP 3 353 (uAd PP 3 21).loop xeBC ∧ True ∧ True ∧ ∃ l_18, Wv Evl c.1 l_18 ∧ ∃ l_19, Wv Ei16 c.2.1 l_19 ∧ ∃ l_20, Wv Ec (knV l l_4 l_5 l_6) l_20 ∧ ∃ l, Wv En c_3.1 l ∧ ∃ l_21, Wv En c_2.1.1 l_21 ∧ ∃ l_22, Wv En c_2.1.2.1 l_22 ∧ ∃ (m : Mp Int Int), [] = Mp.enc Ki Vi m ∧ 0 = m.clock ∧ true = true ∧ xeBInv ((l_18, l_19, uAu c.2.2.2.2.1 65, l_20, (), l, (), 0, ()), (l_21, l_22, ()), m, ()) ∧ (∀ c_4 d, xeBR0 ((l_18, l_19, uAu c.2.2.2.2.1 65, l_20, (), l, (), 0, ()), (l_21, l_22, ()), m, ()) c_4 d → uAs PP 3 353 (uAd PP 3 33).loop xeDC ∧ True ∧ True ∧ ∃ l, Wv Ec c_4.2.1 l ∧ ∃ l_23, Wv En c_4.2.2.2.1 l_23 ∧ ∃ l_24, Wv En d.1.1 l_24 ∧ ∃ l_25, Wv En d.1.2.1 l_25 ∧ ∃ (m : Mp Int Int), Mp.enc Ki Vi d.2.1 = Mp.enc Ki Vi m ∧ d.2.1.clock = m.clock ∧ true = true ∧ xeDInv ((c_4.1, l, (), l_23, (), 0, ()), (l_24, l_25, ()), m, ()) ∧ (∀ c d, xeDR0 ((c_4.1, l, (), l_23, (), 0, ()), (l_24, l_25, ()), m, ()) c d → uAs PP 3 353 (uAd PP 3 39).loop xeEC ∧ True ∧ True ∧ ∃ l, Wv Ec c.2.1 l ∧ ∃ l_26, Wv En d.1.1 l_26 ∧ ∃ l_27, Wv En d.1.2.1 l_27 ∧ ∃ (m : Mp Int Bool), [] = Mp.enc Ki Vb m ∧ 0 = m.clock ∧ true = true ∧ xeEInv ((c.1, l, (), (), 0, ()), (l_26, l_27, ()), m, ()) ∧ (∀ (c_5 d : Unit), xeER0 ((c.1, l, (), (), 0, ()), (l_26, l_27, ()), m, ()) c_5 d → True) ∧ (∀ c_5 d, xeER1 ((c.1, l, (), (), 0, ()), (l_26, l_27, ()), m, ()) c_5 d → False) ∧ True) ∧ (∀ c d, xeDR1 ((c_4.1, l, (), l_23, (), 0, ()), (l_24, l_25, ()), m, ()) c d → False) ∧ True) ∧ (∀ c_4 d, xeBR1 ((l_18, l_19, uAu c.2.2.2.2.1 65, l_20, (), l, (), 0, ()), (l_21, l_22, ()), m, ()) c_4 d → False) ∧ True)) ∧ True) ∨ (∃ l_11, Wv Ei16 c.2.1 l_11 ∧ ∃ l_12, Wv Ec (knV l l_4 l_5 l_6) l_12 ∧ False) ∨ ∃ l_11, Wv Ei16 c.2.1 l_11 ∧ ∃ l_12, Wv Ec (knV l l_4 l_5 l_6) l_12 ∧ False) ∧ (∀ c_2 d_1, exNR1 ((l_7, l_8, (), uAu c.2.2.2.2.1 65, ()), (d.1.1, d.1.2.1, d.1.2.2.1, d.1.2.2.2.1, d.1.2.2.2.2.1, (), ()), l_9, l_10, ()) c_2 d_1 → (∃ l_11, Wv Ei16 c.2.1 l_11 ∧ ∃ l_12, Wv Ec (knV l l_4 l_5 l_6) l_12 ∧ False) ∨ (∃ l_11, Wv Ei16 c.2.1 l_11 ∧ ∃ l_12, Wv Ec (knV l l_4 l_5 l_6) l_12 ∧ ∃ l_13, Ow Ei64 d_1.1.2.2.2.2.2.1 l_13 1 ∧ ∃ l_14, Sa Eu64 d_1.2.1 l_14 ∧ ∃ l_15, Sa Ei16 d_1.2.2.1 l_15 ∧ true = true ∧ fuOPre ((l_11, l_12, (), uAu c.2.2.2.2.1 65, ()), (d_1.1.1, d_1.1.2.1, d_1.1.2.2.1, d_1.1.2.2.2.1, d_1.1.2.2.2.2.1, l_13, ()), l_14, l_15, (), ()) ∧ (∀ c_3 d, fuOR0 ((l_11, l_12, (), uAu c.2.2.2.2.1 65, ()), (d_1.1.1, d_1.1.2.1, d_1.1.2.2.1, d_1.1.2.2.2.1, d_1.1.2.2.2.2.1, l_13, ()), l_14, l_15, (), ()) c_3 d → c_2.2.1 = 0 ∧ c_3.2.1 = 0 ∧ ∃ l_16, Wv En c_2.1.1 l_16 ∧ ∃ l_17, Wv En c_3.1 l_17 ∧ sameNTPre (l_16, l_17, ()) ∧ Int.ofNat c_3.1.length = ifb (uAf (uAu c.2.2.2.2.1 65) (Int.ofNat (knV l l_4 l_5 l_6).length)) (uAu c.2.2.2.2.1 65) (Int.ofNat (knV l l_4 l_5 l_6).length) ∧ ∃ l_18, Wv Ec (knV l l_4 l_5 l_6) l_18 ∧ ∃ (a : Exa), WkL [AV.vs (List.flatMap En.f c_2.1.1) c_2.1.1.length c_2.1.1.length false none 2, AV.vs (List.flatMap En.f c_2.1.2.1) c_2.1.2.1.length c_2.1.2.1.length false none 2] (Ex.f a) ∧ leanPre (l_18, a, uAu c.2.2.2.2.1 65, ()) ∧ ifp (!leanV l_18 a.2.1 (uAu c.2.2.2.2.1 65)) False (uAs PP 3 353 (uAd PP 3 21).loop xeBC ∧ True ∧ True ∧ ∃ l_19, Wv Evl c.1 l_19 ∧ ∃ l_20, Wv Ei16 c.2.1 l_20 ∧ ∃ l_21, Wv Ec (knV l l_4 l_5 l_6) l_21 ∧ ∃ l, Wv En c_3.1 l ∧ ∃ l_22, Wv En c_2.1.1 l_22 ∧ ∃ l_23, Wv En c_2.1.2.1 l_23 ∧ ∃ (m : Mp Int Int), [] = Mp.enc Ki Vi m ∧ 0 = m.clock ∧ true = true ∧ xeBInv ((l_19, l_20, uAu c.2.2.2.2.1 65, l_21, (), l, (), 0, ()), (l_22, l_23, ()), m, ()) ∧ (∀ c_4 d, xeBR0 ((l_19, l_20, uAu c.2.2.2.2.1 65, l_21, (), l, (), 0, ()), (l_22, l_23, ()), m, ()) c_4 d → uAs PP 3 353 (uAd PP 3 33).loop xeDC ∧ True ∧ True ∧ ∃ l, Wv Ec c_4.2.1 l ∧ ∃ l_24, Wv En c_4.2.2.2.1 l_24 ∧ ∃ l_25, Wv En d.1.1 l_25 ∧ ∃ l_26, Wv En d.1.2.1 l_26 ∧ ∃ (m : Mp Int Int), Mp.enc Ki Vi d.2.1 = Mp.enc Ki Vi m ∧ d.2.1.clock = m.clock ∧ true = true ∧ xeDInv ((c_4.1, l, (), l_24, (), 0, ()), (l_25, l_26, ()), m, ()) ∧ (∀ c d, xeDR0 ((c_4.1, l, (), l_24, (), 0, ()), (l_25, l_26, ()), m, ()) c d → uAs PP 3 353 (uAd PP 3 39).loop xeEC ∧ True ∧ True ∧ ∃ l, Wv Ec c.2.1 l ∧ ∃ l_27, Wv En d.1.1 l_27 ∧ ∃ l_28, Wv En d.1.2.1 l_28 ∧ ∃ (m : Mp Int Bool), [] = Mp.enc Ki Vb m ∧ 0 = m.clock ∧ true = true ∧ xeEInv ((c.1, l, (), (), 0, ()), (l_27, l_28, ()), m, ()) ∧ (∀ (c_5 d : Unit), xeER0 ((c.1, l, (), (), 0, ()), (l_27, l_28, ()), m, ()) c_5 d → True) ∧ (∀ c_5 d, xeER1 ((c.1, l, (), (), 0, ()), (l_27, l_28, ()), m, ()) c_5 d → False) ∧ True) ∧ (∀ c d, xeDR1 ((c_4.1, l, (), l_24, (), 0, ()), (l_25, l_26, ()), m, ()) c d → False) ∧ True) ∧ (∀ c_4 d, xeBR1 ((l_19, l_20, uAu c.2.2.2.2.1 65, l_21, (), l, (), 0, ()), (l_22, l_23, ()), m, ()) c_4 d → False) ∧ True)) ∧ True) ∨ ∃ l_11, Wv Ei16 c.2.1 l_11 ∧ ∃ l_12, Wv Ec (knV l l_4 l_5 l_6) l_12 ∧ False) ∧ True) ∨ ∃ l_7, Wv Ei16 c.2.1 l_7 ∧ ∃ l_8, Wv Ec (knV l l_4 l_5 l_6) l_8 ∧ False)) ∧ (∀ c_1 d, putGR2 ((Int.ofNat c.2.1.length, l, ()), ()) c_1 d → pickPre (c.2.2.2.2.1, 65, ()) ∧ ∃ l, Wv Ei16 c.2.1 l ∧ ∃ l_4, Wv Evl c.1 l_4 ∧ ∃ l_5, Wv Ei64 c.2.2.1 l_5 ∧ ∃ l_6, Wv Ei64 c.2.2.2.1 l_6 ∧ knownPre (l, l_4, l_5, l_6, ()) ∧ ((∃ l_7, Wv Ei16 c.2.1 l_7 ∧ ∃ l_8, Wv Ec (knV l l_4 l_5 l_6) l_8 ∧ False) ∨ ∃ l_7, Wv Ei16 c.2.1 l_7 ∧ ∃ l_8, Wv Ec (knV l l_4 l_5 l_6) l_8 ∧ true = true ∧ exZPre ((l_7, l_8, (), uAu c.2.2.2.2.1 65, ()), (d.1.1, d.1.2.1, d.1.2.2.1, (), (), (), ()), ()) ∧ (∀ c_2 d_1, exZR0 ((l_7, l_8, (), uAu c.2.2.2.2.1 65, ()), (d.1.1, d.1.2.1, d.1.2.2.1, (), (), (), ()), ()) c_2 d_1 → (∃ l_9, Wv Ei16 c.2.1 l_9 ∧ ∃ l_10, Wv Ec (knV l l_4 l_5 l_6) l_10 ∧ False) ∨ (∃ l_9, Wv Ei16 c.2.1 l_9 ∧ ∃ l_10, Wv Ec (knV l l_4 l_5 l_6) l_10 ∧ False) ∨ ∃ l_9, Wv Ei16 c.2.1 l_9 ∧ ∃ l_10, Wv Ec (knV l l_4 l_5 l_6) l_10 ∧ true = true ∧ fuZPre ((l_9, l_10, (), uAu c.2.2.2.2.1 65, ()), (d_1.1.1, d_1.1.2.1, d_1.1.2.2.1, (), (), (), ()), ()) ∧ (∀ c_3 d, fuZR0 ((l_9, l_10, (), uAu c.2.2.2.2.1 65, ()), (d_1.1.1, d_1.1.2.1, d_1.1.2.2.1, (), (), (), ()), ()) c_3 d → c_2.2.1 = 0 ∧ c_3.2.1 = 0 ∧ ∃ l_11, Wv En c_2.1.1 l_11 ∧ ∃ l_12, Wv En c_3.1 l_12 ∧ sameNTPre (l_11, l_12, ()) ∧ Int.ofNat c_3.1.length = ifb (uAf (uAu c.2.2.2.2.1 65) (Int.ofNat (knV l l_4 l_5 l_6).length)) (uAu c.2.2.2.2.1 65) (Int.ofNat (knV l l_4 l_5 l_6).length) ∧ ∃ l_13, Wv Ec (knV l l_4 l_5 l_6) l_13 ∧ ∃ (a : Exa), WkL [AV.vs (List.flatMap En.f c_2.1.1) c_2.1.1.length c_2.1.1.length false none 2, AV.vs (List.flatMap En.f c_2.1.2.1) c_2.1.2.1.length c_2.1.2.1.length false none 2] (Ex.f a) ∧ leanPre (l_13, a, uAu c.2.2.2.2.1 65, ()) ∧ ifp (!leanV l_13 a.2.1 (uAu c.2.2.2.2.1 65)) False (uAs PP 3 353 (uAd PP 3 21).loop xeBC ∧ True ∧ True ∧ ∃ l_14, Wv Evl c.1 l_14 ∧ ∃ l_15, Wv Ei16 c.2.1 l_15 ∧ ∃ l_16, Wv Ec (knV l l_4 l_5 l_6) l_16 ∧ ∃ l, Wv En c_3.1 l ∧ ∃ l_17, Wv En c_2.1.1 l_17 ∧ ∃ l_18, Wv En c_2.1.2.1 l_18 ∧ ∃ (m : Mp Int Int), [] = Mp.enc Ki Vi m ∧ 0 = m.clock ∧ true = true ∧ xeBInv ((l_14, l_15, uAu c.2.2.2.2.1 65, l_16, (), l, (), 0, ()), (l_17, l_18, ()), m, ()) ∧ (∀ c_4 d, xeBR0 ((l_14, l_15, uAu c.2.2.2.2.1 65, l_16, (), l, (), 0, ()), (l_17, l_18, ()), m, ()) c_4 d → uAs PP 3 353 (uAd PP 3 33).loop xeDC ∧ True ∧ True ∧ ∃ l, Wv Ec c_4.2.1 l ∧ ∃ l_19, Wv En c_4.2.2.2.1 l_19 ∧ ∃ l_20, Wv En d.1.1 l_20 ∧ ∃ l_21, Wv En d.1.2.1 l_21 ∧ ∃ (m : Mp Int Int), Mp.enc Ki Vi d.2.1 = Mp.enc Ki Vi m ∧ d.2.1.clock = m.clock ∧ true = true ∧ xeDInv ((c_4.1, l, (), l_19, (), 0, ()), (l_20, l_21, ()), m, ()) ∧ (∀ c d, xeDR0 ((c_4.1, l, (), l_19, (), 0, ()), (l_20, l_21, ()), m, ()) c d → uAs PP 3 353 (uAd PP 3 39).loop xeEC ∧ True ∧ True ∧ ∃ l, Wv Ec c.2.1 l ∧ ∃ l_22, Wv En d.1.1 l_22 ∧ ∃ l_23, Wv En d.1.2.1 l_23 ∧ ∃ (m : Mp Int Bool), [] = Mp.enc Ki Vb m ∧ 0 = m.clock ∧ true = true ∧ xeEInv ((c.1, l, (), (), 0, ()), (l_22, l_23, ()), m, ()) ∧ (∀ (c_5 d : Unit), xeER0 ((c.1, l, (), (), 0, ()), (l_22, l_23, ()), m, ()) c_5 d → True) ∧ (∀ c_5 d, xeER1 ((c.1, l, (), (), 0, ()), (l_22, l_23, ()), m, ()) c_5 d → False) ∧ True) ∧ (∀ c d, xeDR1 ((c_4.1, l, (), l_19, (), 0, ()), (l_20, l_21, ()), m, ()) c d → False) ∧ True) ∧ (∀ c_4 d, xeBR1 ((l_14, l_15, uAu c.2.2.2.2.1 65, l_16, (), l, (), 0, ()), (l_17, l_18, ()), m, ()) c_4 d → False) ∧ True)) ∧ True) ∧ True)) ∧ True) ∧ (∀ c d, xeAR1 ((l, l_1, l_2, l_3, k, 0, ()), ()) c d → True) ∧ True))) True) ∧ True) := by kernel_rfl
theorem rerankExactHolds {gl : Tr (List AV)} (hg : GlOk gl) (V : List (List Int)) (q : List Int) (lo : List Int) (hi : List Int) (k : Int) (hV : Sh.plOk (.slice (.slice (.int .i16))) V) (hq : Sh.plOk (.slice (.int .i16)) q) (hlo : Sh.plOk (.slice (.int .i64)) lo) (hhi : Sh.plOk (.slice (.int .i64)) hi) (hk : Sh.plOk (.int .i64) k) : uA2 PP (runW PP (KLX [(4, livesG gl), (5, light16K), (6, putGK gl), (7, pickK), (8, knownK), (9, exactK), (10, fullK), (11, sameNTK), (12, leanK)] [(3, [(6, xeAC), (21, xeBC), (33, xeDC), (39, xeEC)])] [46, 89, 27, 23, 48, 55] [(3, [17])] []) 300) 3 (rerankExactT.cells id (V, q, lo, hi, k, ())) (stBg true gl) (fun v _ => yesQ v) := by
 refine (rerankExactFn gl V q lo hi k).mpr ?_
 refine ⟨rfl, rfl, trivial, fun _ _ _ => ?_, trivial⟩
 refine ⟨V, Wk.refl _, by show (60 : Int) < _; decide, ?_⟩
 cases hL : lightV V 60 16 with
 | false => rw [uDn rfl]; trivial
 | true =>
  rw [uAj rfl, uAe]
  split
  ·trivial
  ·rename_i hq1
   rw [uAe]
   split
   ·trivial
   ·rename_i hq2
    obtain ⟨l1, l2⟩ := lightV_inv (m := 60) (n := 16) hL
    have hq1' : 1 ≤ q.length := by simp only [Int.ofNat_eq_natCast] at hq1; omega
    have hq2' : q.length ≤ 16 := by simp only [Int.ofNat_eq_natCast] at hq2; omega
    refine ⟨xeAOk, trivial, trivial, V, Wk.refl _, q, Wk.refl _, lo, Wk.refl _, hi, Wk.refl _, rfl, ⟨0, rfl, Nat.zero_le _, l1, fun j _ h9 => by omega⟩, fun c d hr => ?_, fun _ _ _ => trivial, trivial⟩
    obtain ⟨V2, q2, lo2, hi2, k2, _⟩ := c
    obtain ⟨g1, g2, g3, g4, g5, hlenV⟩ := hr
    obtain rfl : V = V2 := g1.symm
    obtain rfl : q = q2 := g2.symm
    obtain rfl : lo = lo2 := g3.symm
    obtain rfl : hi = hi2 := g4.symm
    obtain rfl : k = k2 := g5.symm
    have iq : I16 q := fun x hx => wf_i16 (hq.1 x hx)
    have iV : ∀ v ∈ V, I16 v ∧ v.length = q.length := fun v hv => ⟨fun x hx => wf_i16 ((hV.1 v hv).1 x hx), hlenV v hv⟩
    obtain ⟨p1, p2⟩ := pick_range (n := k) (m := 65) (by decide)
    obtain ⟨k1, k2⟩ := wf_i64 hk
    have hfit : fitV (Int.ofNat q.length) V = V := fit_all fun v hv => by rw [hlenV v hv]; rfl
    have hkl : (knV q V lo hi).length = V.length := kn_len q V lo hi
    have hch : chkE q (knV q V lo hi) (uAu k 65) = 0 := kn_chk hq1' (by omega) p1 (by omega)
    obtain ⟨hFu, T, hEx, hTr⟩ := rerank_main (q := q) (V := V) (l := (knV q V lo hi)) (k := uAu k 65) hch p1 (kn_may q V lo hi) (kn_good iq iV hq1' (by omega))
    rw [kn_nears iq iV hq1' (by omega)] at hFu hEx
    have fin : ∀ {y1 y2 o3 : List Near} {e2 f3 : Int}, ((y1, y2), e2) = exV q (knV q V lo hi) V (uAu k 65) → (o3, f3) = fuV q (knV q V lo hi) V (uAu k 65) → ((y1 = (topL (uAu k 65) (dnV q V)) ∧ T = y2) ∧ e2 = 0) ∧ o3 = (topL (uAu k 65) (dnV q V)) ∧ f3 = 0 := fun h1 h2 => by
     rw [hEx] at h1; rw [hFu] at h2
     simp only [Prod.mk.injEq] at h1 h2
     exact ⟨⟨⟨h1.1.1, h1.1.2.symm⟩, h1.2⟩, h2⟩
    have hXl0 := topL_len (uAu k 65) (dnV q V)
    have hdl := dn_len q V
    have hXl : (topL (uAu k 65) (dnV q V)).length ≤ 60 := by omega
    obtain ⟨hT1, hT2⟩ := trace_lean hTr
    have hol := ordC_le (knV q V lo hi)
    have hTl : T.length ≤ 60 := by omega
    have hLean : leanV (knV q V lo hi) T (uAu k 65) = true := by rw [leanV, kn_may, decide_eq_true hT2]; simpa using hT1
    have hlen : Int.ofNat (topL (uAu k 65) (dnV q V)).length = ifb (uAf (uAu k 65) (Int.ofNat (knV q V lo hi).length)) (uAu k 65) (Int.ofNat (knV q V lo hi).length) := by
     rw [uBo, uCk, hkl]
     by_cases h9 : uAu k 65 ≤ Int.ofNat V.length
     ·rw [if_pos (by simpa using h9)]; simp only [Int.ofNat_eq_natCast] at h9 ⊢; omega
     ·rw [if_neg (by simpa using h9)]; simp only [Int.ofNat_eq_natCast] at h9 ⊢; omega
    have hids : ∀ j (h : j < (knV q V lo hi).length), (knV q V lo hi)[j].1 = ((1 + j : Nat) : Int) := fun j h => by rw [kn_get]; exact (kn_one q lo hi _ j).1
    have hsl : ∀ u ∈ (knV q V lo hi), u.2.2.2.1 < 9223372036854775808 := fun u hu => by
     obtain ⟨i, h9, rfl⟩ := kn_mem hu
     rw [(kn_one q lo hi _ i).2.1]; omega
    have hkp : V.length ≤ 60 ∧ q.length ≤ 1000 ∧ (∀ v ∈ V, v.length ≤ 1000) ∧ (∀ x ∈ lo, -9223372036854775808 ≤ x ∧ x < 9223372036854775808) ∧ (∀ x ∈ hi, -9223372036854775808 ≤ x ∧ x < 9223372036854775808) := ⟨l1, by omega, fun v hv => by have := l2 v hv; omega, fun x hx => wf_i64 (hlo.1 x hx), fun x hx => wf_i64 (hhi.1 x hx)⟩
    refine ⟨rfl, V, Wk.refl _, rfl, ⟨l1, fun v hv => by have := l2 v hv; omega⟩, fun _ _ _ => trivial, fun c1 d1 h1 => ?_, fun c1 d1 h1 => ?_, trivial⟩
    ·obtain ⟨⟨d, r, c, t, a, _, _⟩, T1, A1, _⟩ := d1
     obtain ⟨hS0, _, hd0, _⟩ := h1
     rw [hfit] at hS0
     have hd1 : d = Int.ofNat q.length := hd0
     have hS : SlOk d r c t a T1 A1 V := by rw [hd1]; exact hS0
     refine ⟨⟨k1, k2, by decide⟩, q, Wk.refl _, V, Wk.refl _, lo, Wk.refl _, hi, Wk.refl _, hkp, Or.inl ⟨q, Wk.refl _, (knV q V lo hi), Wk.refl _, T1, rfl, A1, rfl, rfl, ⟨by omega, by omega, hsl, V, hS⟩, fun c2 d2 h2 => ?_, fun c2 d2 h2 => ?_, trivial⟩⟩
     ·obtain ⟨⟨y1, y2, _⟩, e2, _⟩ := c2
      obtain ⟨⟨d2, r2, c2, t2, a2, _⟩, T2, A2, _⟩ := d2
      obtain ⟨w1, w2, w3, w4, w5, w6, w7, hx⟩ := h2
      obtain rfl : d = d2 := w1.symm
      obtain rfl : r = r2 := w2.symm
      obtain rfl : c = c2 := w3.symm
      obtain rfl : t = t2 := w4.symm
      obtain rfl : a = a2 := w5.symm
      obtain rfl : T1 = T2 := w6.symm
      obtain rfl : A1 = A2 := w7.symm
      refine Or.inl ⟨q, Wk.refl _, (knV q V lo hi), Wk.refl _, T1, rfl, A1, rfl, rfl, ⟨by omega, by omega, hsl, V, hS⟩, fun c3 d3 hf => ?_, trivial⟩
      obtain ⟨o3, f3, _⟩ := c3
      obtain ⟨⟨⟨rfl, rfl⟩, rfl⟩, rfl, rfl⟩ := fin (hx V hS) (hf V hS)
      refine ⟨rfl, rfl, (topL (uAu k 65) (dnV q V)), Wk.refl _, (topL (uAu k 65) (dnV q V)), Wk.refl _, ⟨by show (topL (uAu k 65) (dnV q V)).length ≤ 1000000; omega, by simp⟩, hlen, (knV q V lo hi), Wk.refl _, ((topL (uAu k 65) (dnV q V)), T, ()), WkL.refl _, by show (knV q V lo hi).length ≤ 1000000; omega, ?_⟩
      rw [uDn (show (!leanV (knV q V lo hi) T (uAu k 65)) = false by rw [hLean]; rfl)]
      refine ⟨xeBOk, trivial, trivial, V, Wk.refl _, q, Wk.refl _, (knV q V lo hi), Wk.refl _, (topL (uAu k 65) (dnV q V)), Wk.refl _, (topL (uAu k 65) (dnV q V)), Wk.refl _, T, Wk.refl _, Mp.empty, rfl, rfl, rfl, ⟨0, lo, hi, rfl, Nat.zero_le _, l1, by omega, fun v hv => by have := l2 v hv; omega, rfl, top_full q V _, hXl, fun j h9 => by omega, Nat.le_refl _⟩, fun c4 d4 h4 => ?_, fun _ _ h9 => h9, trivial⟩
      obtain ⟨k4, l4, _, o4, _, _⟩ := c4
      obtain ⟨⟨p4, r4, _⟩, M4, _⟩ := d4
      obtain ⟨u1, u2, u3, u4, u5, hM⟩ := h4
      obtain rfl : k4 = uAu k 65 := u1
      obtain rfl : l4 = (knV q V lo hi) := u2
      obtain rfl : o4 = (topL (uAu k 65) (dnV q V)) := u3
      obtain rfl : p4 = (topL (uAu k 65) (dnV q V)) := u4
      obtain rfl : T = r4 := u5.symm
      refine ⟨xeDOk, trivial, trivial, (knV q V lo hi), Wk.refl _, (topL (uAu k 65) (dnV q V)), Wk.refl _, (topL (uAu k 65) (dnV q V)), Wk.refl _, T, Wk.refl _, M4, rfl, rfl, rfl, ⟨0, q, V, rfl, Nat.zero_le _, hXl, top_full q V _, l1, hM⟩, fun c5 d5 h5 => ?_, fun _ _ h9 => h9, trivial⟩
      obtain ⟨k5, l5, _, _⟩ := c5
      obtain ⟨⟨p5, r5, _⟩, _⟩ := d5
      obtain ⟨u1, u2, u3, u4⟩ := h5
      obtain rfl : k5 = uAu k 65 := u1
      obtain rfl : l5 = (knV q V lo hi) := u2
      obtain rfl : p5 = (topL (uAu k 65) (dnV q V)) := u3
      obtain rfl : T = r5 := u4.symm
      exact ⟨xeEOk, trivial, trivial, (knV q V lo hi), Wk.refl _, (topL (uAu k 65) (dnV q V)), Wk.refl _, T, Wk.refl _, Mp.empty, rfl, rfl, rfl, ⟨0, rfl, Nat.zero_le _, hTl, by omega, p1, hids, kn_may q V lo hi, hTr, fun y => by simp [Mp.empty_find], Nat.le_refl _⟩, fun _ _ _ => trivial, fun _ _ h9 => h9, trivial⟩
     ·obtain ⟨⟨y1, y2, _⟩, e2, _⟩ := c2
      obtain ⟨⟨d2, r2, c2, t2, a2, x2, _⟩, T2, A2, _⟩ := d2
      obtain ⟨w1, w2, w3, w4, w5, w6, w7, wx, hx⟩ := h2
      have wx2 : x2.length ≤ 60 := wx
      obtain rfl : d = d2 := w1.symm
      obtain rfl : r = r2 := w2.symm
      obtain rfl : c = c2 := w3.symm
      obtain rfl : t = t2 := w4.symm
      obtain rfl : a = a2 := w5.symm
      obtain rfl : T1 = T2 := w6.symm
      obtain rfl : A1 = A2 := w7.symm
      refine Or.inr (Or.inl ⟨q, Wk.refl _, (knV q V lo hi), Wk.refl _, x2, ⟨WkL.refl _, rfl, rfl⟩, T1, rfl, A1, rfl, rfl, ⟨by omega, by omega, hsl, ⟨V, hS⟩, by show x2.length ≤ _; omega⟩, fun c3 d3 hf => ?_, trivial⟩)
      obtain ⟨o3, f3, _⟩ := c3
      obtain ⟨⟨⟨rfl, rfl⟩, rfl⟩, rfl, rfl⟩ := fin (hx V hS) (hf V hS)
      refine ⟨rfl, rfl, (topL (uAu k 65) (dnV q V)), Wk.refl _, (topL (uAu k 65) (dnV q V)), Wk.refl _, ⟨by show (topL (uAu k 65) (dnV q V)).length ≤ 1000000; omega, by simp⟩, hlen, (knV q V lo hi), Wk.refl _, ((topL (uAu k 65) (dnV q V)), T, ()), WkL.refl _, by show (knV q V lo hi).length ≤ 1000000; omega, ?_⟩
      rw [uDn (show (!leanV (knV q V lo hi) T (uAu k 65)) = false by rw [hLean]; rfl)]
      refine ⟨xeBOk, trivial, trivial, V, Wk.refl _, q, Wk.refl _, (knV q V lo hi), Wk.refl _, (topL (uAu k 65) (dnV q V)), Wk.refl _, (topL (uAu k 65) (dnV q V)), Wk.refl _, T, Wk.refl _, Mp.empty, rfl, rfl, rfl, ⟨0, lo, hi, rfl, Nat.zero_le _, l1, by omega, fun v hv => by have := l2 v hv; omega, rfl, top_full q V _, hXl, fun j h9 => by omega, Nat.le_refl _⟩, fun c4 d4 h4 => ?_, fun _ _ h9 => h9, trivial⟩
      obtain ⟨k4, l4, _, o4, _, _⟩ := c4
      obtain ⟨⟨p4, r4, _⟩, M4, _⟩ := d4
      obtain ⟨u1, u2, u3, u4, u5, hM⟩ := h4
      obtain rfl : k4 = uAu k 65 := u1
      obtain rfl : l4 = (knV q V lo hi) := u2
      obtain rfl : o4 = (topL (uAu k 65) (dnV q V)) := u3
      obtain rfl : p4 = (topL (uAu k 65) (dnV q V)) := u4
      obtain rfl : T = r4 := u5.symm
      refine ⟨xeDOk, trivial, trivial, (knV q V lo hi), Wk.refl _, (topL (uAu k 65) (dnV q V)), Wk.refl _, (topL (uAu k 65) (dnV q V)), Wk.refl _, T, Wk.refl _, M4, rfl, rfl, rfl, ⟨0, q, V, rfl, Nat.zero_le _, hXl, top_full q V _, l1, hM⟩, fun c5 d5 h5 => ?_, fun _ _ h9 => h9, trivial⟩
      obtain ⟨k5, l5, _, _⟩ := c5
      obtain ⟨⟨p5, r5, _⟩, _⟩ := d5
      obtain ⟨u1, u2, u3, u4⟩ := h5
      obtain rfl : k5 = uAu k 65 := u1
      obtain rfl : l5 = (knV q V lo hi) := u2
      obtain rfl : p5 = (topL (uAu k 65) (dnV q V)) := u3
      obtain rfl : T = r5 := u4.symm
      exact ⟨xeEOk, trivial, trivial, (knV q V lo hi), Wk.refl _, (topL (uAu k 65) (dnV q V)), Wk.refl _, T, Wk.refl _, Mp.empty, rfl, rfl, rfl, ⟨0, rfl, Nat.zero_le _, hTl, by omega, p1, hids, kn_may q V lo hi, hTr, fun y => by simp [Mp.empty_find], Nat.le_refl _⟩, fun _ _ _ => trivial, fun _ _ h9 => h9, trivial⟩
    ·obtain ⟨hV0, _⟩ := h1
     rw [hfit] at hV0
     subst hV0
     have hz0 : chkE q (knV q [] lo hi) (uAu k 65) = 0 ∧ knV q [] lo hi = [] ∧ 0 ≤ uAu k 65 ∧ uAu k 65 ≤ 16777216 ∧ vchk q q.length = 0 ∧ q.length ≤ 2000 := ⟨hch, rfl, p1, by omega, (chk_zero hch).1, by omega⟩
     refine ⟨⟨k1, k2, by decide⟩, q, Wk.refl _, [], Wk.refl _, lo, Wk.refl _, hi, Wk.refl _, hkp, Or.inr ⟨q, Wk.refl _, knV q [] lo hi, Wk.refl _, rfl, hz0, fun c2 d2 h2 => ?_, trivial⟩⟩
     obtain ⟨⟨y1, y2, _⟩, e2, _⟩ := c2
     have hx : ((y1, y2), e2) = exV q (knV q [] lo hi) [] (uAu k 65) := h2
     refine Or.inr (Or.inr ⟨q, Wk.refl _, knV q [] lo hi, Wk.refl _, rfl, hz0, fun c3 d3 hf => ?_, trivial⟩)
     obtain ⟨o3, f3, _⟩ := c3
     obtain ⟨⟨⟨rfl, rfl⟩, rfl⟩, rfl, rfl⟩ := fin (hx) (hf)
     refine ⟨rfl, rfl, (topL (uAu k 65) (dnV q [])), Wk.refl _, (topL (uAu k 65) (dnV q [])), Wk.refl _, ⟨by show (topL (uAu k 65) (dnV q [])).length ≤ 1000000; omega, by simp⟩, hlen, (knV q [] lo hi), Wk.refl _, ((topL (uAu k 65) (dnV q [])), T, ()), WkL.refl _, by show (knV q [] lo hi).length ≤ 1000000; omega, ?_⟩
     rw [uDn (show (!leanV (knV q [] lo hi) T (uAu k 65)) = false by rw [hLean]; rfl)]
     refine ⟨xeBOk, trivial, trivial, [], Wk.refl _, q, Wk.refl _, (knV q [] lo hi), Wk.refl _, (topL (uAu k 65) (dnV q [])), Wk.refl _, (topL (uAu k 65) (dnV q [])), Wk.refl _, T, Wk.refl _, Mp.empty, rfl, rfl, rfl, ⟨0, lo, hi, rfl, Nat.zero_le _, l1, by omega, fun v hv => by have := l2 v hv; omega, rfl, top_full q [] _, hXl, fun j h9 => by omega, Nat.le_refl _⟩, fun c4 d4 h4 => ?_, fun _ _ h9 => h9, trivial⟩
     obtain ⟨k4, l4, _, o4, _, _⟩ := c4
     obtain ⟨⟨p4, r4, _⟩, M4, _⟩ := d4
     obtain ⟨u1, u2, u3, u4, u5, hM⟩ := h4
     obtain rfl : k4 = uAu k 65 := u1
     obtain rfl : l4 = (knV q [] lo hi) := u2
     obtain rfl : o4 = (topL (uAu k 65) (dnV q [])) := u3
     obtain rfl : p4 = (topL (uAu k 65) (dnV q [])) := u4
     obtain rfl : T = r4 := u5.symm
     refine ⟨xeDOk, trivial, trivial, (knV q [] lo hi), Wk.refl _, (topL (uAu k 65) (dnV q [])), Wk.refl _, (topL (uAu k 65) (dnV q [])), Wk.refl _, T, Wk.refl _, M4, rfl, rfl, rfl, ⟨0, q, [], rfl, Nat.zero_le _, hXl, top_full q [] _, l1, hM⟩, fun c5 d5 h5 => ?_, fun _ _ h9 => h9, trivial⟩
     obtain ⟨k5, l5, _, _⟩ := c5
     obtain ⟨⟨p5, r5, _⟩, _⟩ := d5
     obtain ⟨u1, u2, u3, u4⟩ := h5
     obtain rfl : k5 = uAu k 65 := u1
     obtain rfl : l5 = (knV q [] lo hi) := u2
     obtain rfl : p5 = (topL (uAu k 65) (dnV q [])) := u3
     obtain rfl : T = r5 := u4.symm
     exact ⟨xeEOk, trivial, trivial, (knV q [] lo hi), Wk.refl _, (topL (uAu k 65) (dnV q [])), Wk.refl _, T, Wk.refl _, Mp.empty, rfl, rfl, rfl, ⟨0, rfl, Nat.zero_le _, hTl, by omega, p1, hids, kn_may q [] lo hi, hTr, fun y => by simp [Mp.empty_find], Nat.le_refl _⟩, fun _ _ _ => trivial, fun _ _ h9 => h9, trivial⟩
theorem rerankExactTrue {gl : Tr (List AV)} (hg : GlOk gl) (y : ShPls uCc) (hy : ShPlOks uCc y) : uA2 PP (runW PP (KLX [(4, livesG gl), (5, light16K), (6, putGK gl), (7, pickK), (8, knownK), (9, exactK), (10, fullK), (11, sameNTK), (12, leanK)] [(3, [(6, xeAC), (21, xeBC), (33, xeDC), (39, xeEC)])] [46, 89, 27, 23, 48, 55] [(3, [17])] []) 300) 3 (ShPlAvs uCc y) (stBg true gl) (fun v _ => yesQ v) :=
 rerankExactHolds hg y.1 y.2.1 y.2.2.1 y.2.2.2.1 y.2.2.2.2.1 hy.1 hy.2.1 hy.2.2.1 hy.2.2.2.1 hy.2.2.2.2.1
theorem rerankExactCalls {x : ShVs uCc} (hx : ShOks uCc x) {W : World} {args : Array Value} (ht : ∀ (i : Nat) (v : Value), (tab.map fun z => Value.int .u8 z)[i]? = some v → W.cell? ⟨0, i, none⟩ = some v) (h : VRs (uCf W) (ShAvs uCc x) args.toList) : Calls PP 3 args W fun e w' => e = .returned (.bool true) ∧ Below W.heap.size W w' :=
 have hg : GlOk (glT 0 .u8 tab) := glT_is
 law_plain_g mixed (uDp (uAi (lives21Cc hg) (uAi light16Cc (uAi (putGCc hg) (uAi pickCc (uAi knownCc (uAi exactCc (uAi fullCc (uAi sameNTCc (uAi leanCc (uAq))))))))))) (rerankExactTrue hg) hx ht h
end Go.Proofs.YteehkdejkemnmacDoor
