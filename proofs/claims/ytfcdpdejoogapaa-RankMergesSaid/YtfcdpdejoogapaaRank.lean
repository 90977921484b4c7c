/- Forms and contracts, printed by gx.py. -/
import Derived.Test.YtfcdpdejoogapaaRows
import Derived.Test.YtfcdpdejoogapaaDvUse
import Derived.Test.YtfcdpdejoogapaaDvArg
import Derived.ProofKit
import Derived.Test.YtfcdpdejoogapaaBase
import Derived.Test.YtfcdpdejoogapaaSort
import Derived.Test.YtfcdpdejoogapaaDvSort
import Derived.Test.YtfcdpdejoogapaaDvHp
namespace Go.Proofs.Ytfcdpdejoogapaa
open Go.Det Go.RowKit
set_option linter.unusedVariables false
set_option linter.unusedSimpArgs false
set_option maxRecDepth 100000
abbrev Near := Int × Int × Unit
abbrev En : Enc Near := Enc.pair (Enc.int .i64) (Enc.pair (Enc.int .i64) Enc.unit)
def cmpV (a b : Int) : Int := if a < b then -1 else if b < a then 1 else 0
def ordV (a b : Near) : Int := if cmpV a.1 b.1 ≠ 0 then cmpV a.1 b.1 else cmpV a.2.1 b.2.1
def lessV (a b : Near) : Bool := decide (ordV a b < 0)

/-! cmp.Compare[int64] -/
noncomputable def cmpT : Tel (Int × Int × Unit) := .cons 0 (.int .i64) (.cons 1 (.int .i64) (.nil))

theorem cmpFn (a : Int) (b : Int) (Q : AV → Prop) : (callW Try.prog (runW Try.prog (KL [] []) 200) 78 (cmpT.cells id (a, (b, ()))) (stE false) (fun x st => frzW st x Q)) =
  ( ifp (!eqInt a a) (ifp (!eqInt b b) (Q (AV.int IntKind.i64 (0 : Int))) (Q (AV.int IntKind.i64 (-1 : Int)))) (ifp (!eqInt b b) (Q (AV.int IntKind.i64 (1 : Int)))
  (ifp (!leInt b a) (Q (AV.int IntKind.i64 (-1 : Int))) (ifp (!leInt a b) (Q (AV.int IntKind.i64 (1 : Int))) (Q (AV.int IntKind.i64 (0 : Int))))))) := by kernel_rfl

def cmpPre : Int × Int × Unit → Prop := fun (a, (b, ())) => True
noncomputable def cmpRes : Int × Int × Unit → AV := fun (a, (b, ())) => .int .i64 (cmpV a b)
noncomputable def cmpK : CallC := valC cmpT cmpPre cmpRes

theorem cmpVal (a : Int) (b : Int) (hp : cmpPre (a, (b, ()))) : Val Try.prog 78 (cmpT.cells id (a, (b, ()))) (cmpRes (a, (b, ()))) := by
  refine Val.ofF mixed (KL_ok (cc_nil)) (freesC rfl _) (cmpFn a b) ?_
  rw [ifp_ne, if_pos rfl, ifp_ne, if_pos rfl, ifp_lt]
  split
  · rename_i h; exact tells_int (by rw [cmpV, if_pos h])
  · rename_i h
    rw [ifp_lt]
    split
    · rename_i h2; exact tells_int (by rw [cmpV, if_neg h, if_pos h2])
    · rename_i h2; exact tells_int (by rw [cmpV, if_neg h, if_neg h2])
theorem cmpCc : CcOk Try.prog 78 cmpK := val_ok rfl (fun ⟨a, ⟨b, _⟩⟩ h => cmpVal a b h)

/-! wayfinder/rank.order -/
noncomputable def orderT : Tel (Near × Near × Unit) := .cons 0 (.agg En) (.cons 1 (.agg En) (.nil))

theorem orderFn (a : Near) (b : Near) (Q : AV → Prop) : (callW Try.prog (runW Try.prog (KL [(78, cmpK)] []) 200) 52 (orderT.cells id (a, (b, ()))) (stE false) (fun x st => frzW st x Q)) =
  ( cmpPre (a.fst, b.fst, ()) ∧ cmpPre (a.snd.fst, b.snd.fst, ()) ∧ idxOk (0 : Int) (2 : Nat) ∧ ifp (!eqInt (cmpV a.fst b.fst) (0 : Int)) (True ∧ True ∧ (AV.int
  IntKind.i64 a.snd.fst = AV.int IntKind.i64 a.snd.fst ∧ True) ∧ (AV.int IntKind.i64 b.snd.fst = AV.int IntKind.i64 b.snd.fst ∧ True) ∧ Q (AV.int IntKind.i64
  (cmpV a.fst b.fst))) (idxOk (wrapF IntKind.i64 (Int.add (0 : Int) (1 : Int))) (2 : Nat) ∧ ifp (!eqInt (cmpV a.snd.fst b.snd.fst) (0 : Int)) (True ∧ True ∧
  (AV.int IntKind.i64 a.snd.fst = AV.int IntKind.i64 a.snd.fst ∧ True) ∧ (AV.int IntKind.i64 b.snd.fst = AV.int IntKind.i64 b.snd.fst ∧ True) ∧ Q (AV.int
  IntKind.i64 (cmpV a.snd.fst b.snd.fst))) (True ∧ True ∧ (AV.int IntKind.i64 a.snd.fst = AV.int IntKind.i64 a.snd.fst ∧ True) ∧ (AV.int IntKind.i64 b.snd.fst =
  AV.int IntKind.i64 b.snd.fst ∧ True) ∧ Q (AV.int IntKind.i64 (0 : Int))))) := by kernel_rfl

def orderPre : Near × Near × Unit → Prop := fun (a, (b, ())) => True
noncomputable def orderRes : Near × Near × Unit → AV := fun (a, (b, ())) => .int .i64 (ordV a b)
noncomputable def orderK : CallC := valC orderT orderPre orderRes

theorem orderVal (a : Near) (b : Near) (hp : orderPre (a, (b, ()))) : Val Try.prog 52 (orderT.cells id (a, (b, ()))) (orderRes (a, (b, ()))) := by
  refine Val.ofF mixed (KL_ok (cc_cons cmpCc (cc_nil))) (freesC rfl _) (orderFn a b) ?_
  refine ⟨trivial, trivial, idx_ok0 (by decide), ?_⟩
  rw [ifp_ne]
  split
  · rename_i h
    refine ⟨⟨by decide, by decide⟩, ?_⟩
    rw [ifp_ne]
    split
    · rename_i h2
      exact ⟨trivial, trivial, ⟨rfl, trivial⟩, ⟨rfl, trivial⟩, tells_int (by rw [ordV, if_neg (by omega), h2])⟩
    · exact ⟨trivial, trivial, ⟨rfl, trivial⟩, ⟨rfl, trivial⟩, tells_int (by rw [ordV, if_neg (by omega)])⟩
  · rename_i h
    exact ⟨trivial, trivial, ⟨rfl, trivial⟩, ⟨rfl, trivial⟩, tells_int (by rw [ordV, if_pos h])⟩
theorem orderCc : CcOk Try.prog 52 orderK := val_ok rfl (fun ⟨a, ⟨b, _⟩⟩ h => orderVal a b h)

/-! wayfinder/rank.Less -/
noncomputable def lessT : Tel (Near × Near × Unit) := .cons 0 (.agg En) (.cons 1 (.agg En) (.nil))

theorem lessFn (a : Near) (b : Near) (Q : AV → Prop) : (callW Try.prog (runW Try.prog (KL [(52, orderK)] []) 200) 15 (lessT.cells id (a, (b, ()))) (stE false) (fun x st => frzW st x Q)) =
  ( ∃ (a_1 : Near), AV.agg [AV.int IntKind.i64 a.fst, AV.int IntKind.i64 a.snd.fst] = AV.agg [AV.int IntKind.i64 a_1.fst, AV.int IntKind.i64 a_1.snd.fst] ∧ ∃ (a :
  Near), AV.agg [AV.int IntKind.i64 b.fst, AV.int IntKind.i64 b.snd.fst] = AV.agg [AV.int IntKind.i64 a.fst, AV.int IntKind.i64 a.snd.fst] ∧ orderPre (a_1, a,
  ()) ∧ ifp (!leInt (0 : Int) (ordV a_1 a)) (Q (AV.bool true)) (Q (AV.bool false))) := by kernel_rfl

def lessPre : Near × Near × Unit → Prop := fun (a, (b, ())) => True
noncomputable def lessRes : Near × Near × Unit → AV := fun (a, (b, ())) => .bool (lessV a b)
noncomputable def lessK : CallC := valC lessT lessPre lessRes

theorem lessVal (a : Near) (b : Near) (hp : lessPre (a, (b, ()))) : Val Try.prog 15 (lessT.cells id (a, (b, ()))) (lessRes (a, (b, ()))) := by
  refine Val.ofF mixed (KL_ok (cc_cons orderCc (cc_nil))) (freesC rfl _) (lessFn a b) ?_
  refine ⟨a, rfl, b, rfl, trivial, ?_⟩
  rw [ifp_lt]
  split
  · rename_i h; exact tells_bool (by rw [lessV, decide_eq_true h])
  · rename_i h; exact tells_bool (by rw [lessV, decide_eq_false h])
theorem lessCc : CcOk Try.prog 15 lessK := val_ok rfl (fun ⟨a, ⟨b, _⟩⟩ h => lessVal a b h)

theorem ordV_lt {a b : Near} : ordV a b < 0 ↔ a.1 < b.1 ∨ a.1 = b.1 ∧ a.2.1 < b.2.1 := by
  unfold ordV cmpV; split <;> (repeat' split) <;> omega
theorem lessV_iff {a b : Near} : lessV a b = true ↔ a.1 < b.1 ∨ a.1 = b.1 ∧ a.2.1 < b.2.1 := by rw [lessV, decide_eq_true_iff, ordV_lt]

/-! wayfinder/wayfinderref04.Less -/
noncomputable def rlessT : Tel (Near × Near × Unit) := .cons 0 (.agg En) (.cons 1 (.agg En) (.nil))

theorem rlessFn (a : Near) (b : Near) (Q : AV → Prop) : (callW Try.prog (runW Try.prog (KL [] []) 200) 20 (rlessT.cells id (a, (b, ()))) (stE false) (fun x st => frzW st x Q)) =
  ( ifp (!leInt b.fst a.fst) (Q (AV.bool true)) (ifp (eqInt a.fst b.fst) (ifp (!leInt b.snd.fst a.snd.fst) (Q (AV.bool true)) (Q (AV.bool false))) (Q (AV.bool
  false)))) := by kernel_rfl

def rlessPre : Near × Near × Unit → Prop := fun (a, (b, ())) => True
noncomputable def rlessRes : Near × Near × Unit → AV := fun (a, (b, ())) => .bool (lessV a b)
noncomputable def rlessK : CallC := valC rlessT rlessPre rlessRes

theorem rlessVal (a : Near) (b : Near) (hp : rlessPre (a, (b, ()))) : Val Try.prog 20 (rlessT.cells id (a, (b, ()))) (rlessRes (a, (b, ()))) := by
  refine Val.ofF mixed (KL_ok (cc_nil)) (freesC rfl _) (rlessFn a b) ?_
  rw [ifp_lt, ifp_eq, ifp_lt]
  split
  · rename_i h; exact tells_bool (lessV_iff.2 (Or.inl h)).symm
  · rename_i h
    split
    · rename_i h2
      split
      · rename_i h3; exact tells_bool (lessV_iff.2 (Or.inr ⟨h2, h3⟩)).symm
      · rename_i h3; exact tells_bool (by have := lessV_iff (a := a) (b := b); cases hx : lessV a b with | true => exact absurd (this.1 hx) (by omega) | false => rfl)
    · rename_i h2; exact tells_bool (by have := lessV_iff (a := a) (b := b); cases hx : lessV a b with | true => exact absurd (this.1 hx) (by omega) | false => rfl)
theorem rlessCc : CcOk Try.prog 20 rlessK := val_ok rfl (fun ⟨a, ⟨b, _⟩⟩ h => rlessVal a b h)

theorem near_get : ∀ (l : List Near) (k j : Nat) (h : k < l.length), j < 2 → (l.flatMap En.f)[k * 2 + j]? = (En.f l[k])[j]?
  | [], k, j, h, _ => by simp at h
  | a :: l, 0, j, h, hj => by
    rw [List.flatMap_cons, List.getElem?_append_left (by rw [En.len]; show 0 * 2 + j < 2; omega)]; simp
  | a :: l, k + 1, j, h, hj => by
    rw [List.flatMap_cons, List.getElem?_append_right (by rw [En.len]; show 2 ≤ (k + 1) * 2 + j; omega), En.len, show (k + 1) * 2 + j - En.e = k * 2 + j by show (k + 1) * 2 + j - 2 = _; omega]
    exact near_get l k j (by simpa using h) hj
theorem nth_near0 {l : List Near} {k : Nat} (h : k < l.length) : nth (Nat.add (Nat.mul k 2) 0) (l.flatMap En.f) = some (.int .i64 l[k].1) := by rw [nth_eq]; exact near_get l k 0 h (by decide)
theorem nth_near1 {l : List Near} {k : Nat} (h : k < l.length) : nth (Nat.add (Nat.mul k 2) 1) (l.flatMap En.f) = some (.int .i64 l[k].2.1) := by rw [nth_eq]; exact near_get l k 1 h (by decide)
theorem near_snoc {l : List Near} {x : Near} : l.flatMap En.f ++ [AV.int .i64 x.1, AV.int .i64 x.2.1] = (l ++ [x]).flatMap En.f := by rw [List.flatMap_append]; rfl
theorem near_len (l : List Near) : (l.flatMap En.f).length = l.length * 2 := En.flen l

/-! The loop vals of slices.Values[[]wayfinder/api.Near,wayfinder/api.Near]$1. -/
abbrev valsZ := (Unit × (List Near) × Int × Int × Unit) × ((Unit × Unit) × Unit × ((Nat × Nat) × Unit) × (List Near) × Unit)
noncomputable def valsSl : Tel (Unit × (List Near) × Int × Int × Unit) := .cons 0 (.yld 0) (.cons 5 (.lst En) (.cons 6 (.int .i64) (.cons 7 (.int .i64) (.nil))))
noncomputable def valsBl : BTel ((Unit × Unit) × Unit × ((Nat × Nat) × Unit) × (List Near) × Unit) := .cons (.loop 105 13 [7] (rangeAs Try.prog 105 3) (rangeBody Try.prog 105 3) .ready none (.cons 2 (.ptr 2) (.nil)) 1) (.cons (.dfr) (.cons (.row (.cons 0 (.slq 3 2) (.nil))) (.cons (.rows En 30) (.nil))))
noncomputable def valsSl0 : Tel (Unit × (List Near) × Int × Int × Unit) := .cons 0 (.yld 0) (.cons 5 (.lst En) (.cons 6 (.int .i64) (.cons 7 (.int .i64) (.nil))))
noncomputable def valsBl0 : BTel ((Unit × Unit) × Unit × (Unit × Unit) × Unit) := .cons (.loop 105 13 [7] (rangeAs Try.prog 105 3) (rangeBody Try.prog 105 3) .ready none (.cons 2 (.ptr 2) (.nil)) 1) (.cons (.dfr) (.cons (.row (.cons 0 (.nilS) (.nil))) (.nil)))
noncomputable def valsZ0 : (Unit × (List Near) × Int × Int × Unit) → ((Unit × Unit) × Unit × (Unit × Unit) × Unit) → valsZ := fun ((), (l, (n, (i, ())))) (((), ()), ((), (((), ()), ()))) => (((), (l, (n, (i, ())))), (((), ()), ((), (((0, 0), ()), ([], ())))))
noncomputable def valsFs : List (LForm valsZ) := [⟨_, _, valsSl, valsBl, fun x y => (x, y)⟩, ⟨_, _, valsSl0, valsBl0, valsZ0⟩]
noncomputable def valsAlts (R0 : valsZ → (Unit) → ((Unit × Unit) × Unit × ((Nat × Nat) × Unit) × (List Near) × Unit) → Prop) (R1 : valsZ → (Unit) → ((Unit × Unit) × Unit × (Unit × Unit) × Unit) → Prop) : List (Alt valsZ) := [⟨.exit 0, Unit, (Unit × Unit) × Unit × ((Nat × Nat) × Unit) × (List Near) × Unit, .nil, .cons (.loop 105 13 [7] (rangeAs Try.prog 105 3) (rangeBody Try.prog 105 3) .ready none (.cons 2 (.ptr 2) (.nil)) 1) (.cons (.dfr) (.cons (.row (.cons 0 (.slq 3 2) (.nil))) (.cons (.rows En 30) (.nil)))), R0⟩, ⟨.exit 0, Unit, (Unit × Unit) × Unit × (Unit × Unit) × Unit, .nil, .cons (.loop 105 13 [7] (rangeAs Try.prog 105 3) (rangeBody Try.prog 105 3) .ready none (.cons 2 (.ptr 2) (.nil)) 1) (.cons (.dfr) (.cons (.row (.cons 0 (.nilS) (.nil))) (.nil))), R1⟩]

theorem valsForm (l : List Near) (n : Int) (i : Int) (out : Nat × Nat) (m : List Near) (N : valsZ → Prop) (R0 : valsZ → (Unit) → ((Unit × Unit) × Unit × ((Nat × Nat) × Unit) × (List Near) × Unit) → Prop) (R1 : valsZ → (Unit) → ((Unit × Unit) × Unit × (Unit × Unit) × Unit) → Prop) : ((runW Try.prog (KLS [] [] 30) 100).code none 82 16 (loopBody Try.prog 82 1) (mkT (valsSl.av id ((), (l, (n, (i, ())))))) [] (stL false (valsBl.obs id (((), ()), ((), ((out, ()), (m, ())))))) (postL 3 valsFs (valsAlts R0 R1) (((), (l, (n, (i, ())))), (((), ()), ((), ((out, ()), (m, ()))))) N)) =
  ( ifp (!leInt n i) (idxOk i l.length ∧ ∃ (x : Int), nth (((natOf i).mul (2 : Nat)).add (0 : Nat)) (List.flatMap En.f l) = some (AV.int IntKind.i64 x) ∧ ∃ (x_1 :
  Int), nth (((natOf i).mul (2 : Nat)).add (1 : Nat)) (List.flatMap En.f l) = some (AV.int IntKind.i64 x_1) ∧ (2 : Nat) ≤ (2 : Nat) ∧ ∃ (x_2 : Int), some (AV.int
  IntKind.i64 x) = some (AV.int IntKind.i64 x_2) ∧ ∃ (x : Int), some (AV.int IntKind.i64 x_1) = some (AV.int IntKind.i64 x) ∧ (2 : Nat) ≤ (2 : Nat) ∧ ∃ (x_3 :
  Int), some (AV.int IntKind.i64 x_2) = some (AV.int IntKind.i64 x_3) ∧ ∃ (x_4 : Int), some (AV.int IntKind.i64 x) = some (AV.int IntKind.i64 x_4) ∧ (2 : Nat) ≤
  (2 : Nat) ∧ (out.snd < out.fst.add (1 : Nat) ∧ (0 : Nat) = (0 : Nat) ∧ out.fst.mul (2 : Nat) = (List.flatMap En.f m).length ∧ roomy (out.fst.add (1 : Nat)) (16
  : Nat) = true ∧ True ∧ ((∃ (l_1 : List Near), Wk (AV.vs (List.flatMap En.f l) l.length l.length false none (2 : Nat)) (lst En l_1) ∧ True ∧ [(7 : Nat)] = [(7 :
  Nat)] ∧ rangeAs Try.prog (105 : FuncId) (3 : Nat) = rangeAs Try.prog (105 : FuncId) (3 : Nat) ∧ rangeBody Try.prog (105 : FuncId) (3 : Nat) = rangeBody
  Try.prog (105 : FuncId) (3 : Nat) ∧ ∃ (l : List Near), List.flatMap En.f m ++ [AV.int IntKind.i64 x_3, AV.int IntKind.i64 x_4] = List.flatMap En.f l ∧ true =
  true ∧ N (((), l_1, n, wrapF IntKind.i64 (i.add (1 : Int)), ()), ((), ()), (), ((out.fst.add (1 : Nat), out.fst.add (1 : Nat)), ()), l, ())) ∨ ∃ (l_1 : List
  Near), Wk (AV.vs (List.flatMap En.f l) l.length l.length false none (2 : Nat)) (lst En l_1) ∧ True ∧ [(7 : Nat)] = [(7 : Nat)] ∧ rangeAs Try.prog (105 :
  FuncId) (3 : Nat) = rangeAs Try.prog (105 : FuncId) (3 : Nat) ∧ rangeBody Try.prog (105 : FuncId) (3 : Nat) = rangeBody Try.prog (105 : FuncId) (3 : Nat) ∧
  False) ∨ out.fst.add (1 : Nat) ≤ out.snd ∧ (1 : Nat) ≠ (0 : Nat) ∧ (Nat.add (0 : Nat) (out.fst.mul (2 : Nat))).add (2 : Nat) ≤ (List.flatMap En.f m).length ∧
  True ∧ ((∃ (l_1 : List Near), Wk (AV.vs (List.flatMap En.f l) l.length l.length false none (2 : Nat)) (lst En l_1) ∧ True ∧ [(7 : Nat)] = [(7 : Nat)] ∧ rangeAs
  Try.prog (105 : FuncId) (3 : Nat) = rangeAs Try.prog (105 : FuncId) (3 : Nat) ∧ rangeBody Try.prog (105 : FuncId) (3 : Nat) = rangeBody Try.prog (105 : FuncId)
  (3 : Nat) ∧ ∃ (l : List Near), setAt (Nat.add (0 : Nat) (out.fst.mul (2 : Nat))) [AV.int IntKind.i64 x_3, AV.int IntKind.i64 x_4] (List.flatMap En.f m) =
  List.flatMap En.f l ∧ true = true ∧ N (((), l_1, n, wrapF IntKind.i64 (i.add (1 : Int)), ()), ((), ()), (), ((out.fst.add (1 : Nat), out.snd), ()), l, ())) ∨ ∃
  (l_1 : List Near), Wk (AV.vs (List.flatMap En.f l) l.length l.length false none (2 : Nat)) (lst En l_1) ∧ True ∧ [(7 : Nat)] = [(7 : Nat)] ∧ rangeAs Try.prog
  (105 : FuncId) (3 : Nat) = rangeAs Try.prog (105 : FuncId) (3 : Nat) ∧ rangeBody Try.prog (105 : FuncId) (3 : Nat) = rangeBody Try.prog (105 : FuncId) (3 :
  Nat) ∧ False))) ((True ∧ True ∧ [(7 : Nat)] = [(7 : Nat)] ∧ rangeAs Try.prog (105 : FuncId) (3 : Nat) = rangeAs Try.prog (105 : FuncId) (3 : Nat) ∧ rangeBody
  Try.prog (105 : FuncId) (3 : Nat) = rangeBody Try.prog (105 : FuncId) (3 : Nat) ∧ ∃ (l_1 : List Near), List.flatMap En.f m = List.flatMap En.f l_1 ∧ true =
  true ∧ R0 (((), l, n, i, ()), ((), ()), (), (out, ()), m, ()) () (((), ()), (), ((out.fst, out.snd), ()), l_1, ())) ∨ True ∧ True ∧ [(7 : Nat)] = [(7 : Nat)] ∧
  rangeAs Try.prog (105 : FuncId) (3 : Nat) = rangeAs Try.prog (105 : FuncId) (3 : Nat) ∧ rangeBody Try.prog (105 : FuncId) (3 : Nat) = rangeBody Try.prog (105 :
  FuncId) (3 : Nat) ∧ False)) := by kernel_rfl

theorem valsForm0 (l : List Near) (n : Int) (i : Int) (N : valsZ → Prop) (R0 : valsZ → (Unit) → ((Unit × Unit) × Unit × ((Nat × Nat) × Unit) × (List Near) × Unit) → Prop) (R1 : valsZ → (Unit) → ((Unit × Unit) × Unit × (Unit × Unit) × Unit) → Prop) : ((runW Try.prog (KLS [] [] 30) 100).code none 82 16 (loopBody Try.prog 82 1) (mkT (valsSl0.av id ((), (l, (n, (i, ())))))) [] (stL false (valsBl0.obs id (((), ()), ((), (((), ()), ()))))) (postL 3 valsFs (valsAlts R0 R1) (valsZ0 ((), (l, (n, (i, ())))) (((), ()), ((), (((), ()), ())))) N)) =
  ( ifp (!leInt n i) (idxOk i l.length ∧ ∃ (x : Int), nth (((natOf i).mul (2 : Nat)).add (0 : Nat)) (List.flatMap En.f l) = some (AV.int IntKind.i64 x) ∧ ∃ (x_1 :
  Int), nth (((natOf i).mul (2 : Nat)).add (1 : Nat)) (List.flatMap En.f l) = some (AV.int IntKind.i64 x_1) ∧ (2 : Nat) ≤ (2 : Nat) ∧ ∃ (x_2 : Int), some (AV.int
  IntKind.i64 x) = some (AV.int IntKind.i64 x_2) ∧ ∃ (x : Int), some (AV.int IntKind.i64 x_1) = some (AV.int IntKind.i64 x) ∧ (2 : Nat) ≤ (2 : Nat) ∧ ∃ (x_3 :
  Int), some (AV.int IntKind.i64 x_2) = some (AV.int IntKind.i64 x_3) ∧ ∃ (x_4 : Int), some (AV.int IntKind.i64 x) = some (AV.int IntKind.i64 x_4) ∧ (2 : Nat) ≤
  (2 : Nat) ∧ (1 : Nat) ≠ (0 : Nat) ∧ true = true ∧ True ∧ ((∃ (l_1 : List Near), Wk (AV.vs (List.flatMap En.f l) l.length l.length false none (2 : Nat)) (lst En
  l_1) ∧ True ∧ [(7 : Nat)] = [(7 : Nat)] ∧ rangeAs Try.prog (105 : FuncId) (3 : Nat) = rangeAs Try.prog (105 : FuncId) (3 : Nat) ∧ rangeBody Try.prog (105 :
  FuncId) (3 : Nat) = rangeBody Try.prog (105 : FuncId) (3 : Nat) ∧ ∃ (l : List Near), [AV.int IntKind.i64 x_3, AV.int IntKind.i64 x_4] = List.flatMap En.f l ∧
  true = true ∧ N (((), l_1, n, wrapF IntKind.i64 (i.add (1 : Int)), ()), ((), ()), (), (((1 : Nat), (1 : Nat)), ()), l, ())) ∨ ∃ (l_1 : List Near), Wk (AV.vs
  (List.flatMap En.f l) l.length l.length false none (2 : Nat)) (lst En l_1) ∧ True ∧ [(7 : Nat)] = [(7 : Nat)] ∧ rangeAs Try.prog (105 : FuncId) (3 : Nat) =
  rangeAs Try.prog (105 : FuncId) (3 : Nat) ∧ rangeBody Try.prog (105 : FuncId) (3 : Nat) = rangeBody Try.prog (105 : FuncId) (3 : Nat) ∧ False)) (True ∧ True ∧
  [(7 : Nat)] = [(7 : Nat)] ∧ rangeAs Try.prog (105 : FuncId) (3 : Nat) = rangeAs Try.prog (105 : FuncId) (3 : Nat) ∧ rangeBody Try.prog (105 : FuncId) (3 : Nat)
  = rangeBody Try.prog (105 : FuncId) (3 : Nat) ∧ False ∨ True ∧ True ∧ [(7 : Nat)] = [(7 : Nat)] ∧ rangeAs Try.prog (105 : FuncId) (3 : Nat) = rangeAs Try.prog
  (105 : FuncId) (3 : Nat) ∧ rangeBody Try.prog (105 : FuncId) (3 : Nat) = rangeBody Try.prog (105 : FuncId) (3 : Nat) ∧ true = true ∧ R1 (((), l, n, i, ()),
  ((), ()), (), (((0 : Nat), (0 : Nat)), ()), [], ()) () (((), ()), (), ((), ()), ()))) := by kernel_rfl

def valsInv : valsZ → Prop := fun (((), (l, (n, (i, ())))), (((), ()), ((), ((out, ()), (m, ()))))) => ∃ k : Nat, i = k ∧ n = l.length ∧ k ≤ l.length ∧ l.length ≤ 1000000 ∧ out = (k, k) ∧ m = l.take k
def valsMu : valsZ → Nat := fun (((), (l, (n, (i, ())))), (((), ()), ((), ((out, ()), (m, ()))))) => l.length - i.toNat
def valsR0 : valsZ → (Unit) → ((Unit × Unit) × Unit × ((Nat × Nat) × Unit) × (List Near) × Unit) → Prop := fun (((), (l, (n, (i, ())))), (((), ()), ((), ((out, ()), (m, ()))))) _ (_, _, (q, _), m2, _) => q = (l.length, l.length) ∧ m2 = l
def valsR1 : valsZ → (Unit) → ((Unit × Unit) × Unit × (Unit × Unit) × Unit) → Prop := fun (((), (l, (n, (i, ())))), (((), ()), ((), ((out, ()), (m, ()))))) _ _ => l = []
noncomputable def valsC : LoopC := loopC 3 valsFs (valsAlts valsR0 valsR1) valsInv

theorem valsStep : stepsOk Try.prog (KLS [] [] 30) 100 82 16 (loopBody Try.prog 82 1) 3 false valsFs (valsAlts valsR0 valsR1) valsInv valsMu ⟨_, _, valsSl, valsBl, fun x y => (x, y)⟩ := by
  intro x y hz
  obtain ⟨_, l, n, i, _⟩ := x
  obtain ⟨⟨_, _⟩, _, ⟨out, _⟩, m, _⟩ := y
  refine (valsForm l n i out m _ _ _).mpr ?_
  obtain ⟨k, rfl, rfl, hk, hl, rfl, rfl⟩ := hz
  rw [ifp_lt]
  simp only [natOf_nat]
  split
  · rename_i h
    have hkl : k < l.length := by simpa using h
    refine ⟨idx_ok hkl, _, nth_near0 hkl, _, nth_near1 hkl, by decide, _, rfl, _, rfl, by decide, _, rfl, _, rfl, by decide, Or.inl ⟨Nat.lt_succ_self _, by first | trivial | rfl, ?_, roomy_small (by show k + 1 ≤ _; omega) (by decide), trivial, Or.inl ⟨l, Wk.refl _, trivial, by first | trivial | rfl, by first | trivial | rfl, by first | trivial | rfl, l.take (k + 1), ?_, by first | trivial | rfl, ?_⟩⟩⟩
    · rw [near_len, List.length_take, Nat.min_eq_left hk]; rfl
    · rw [← List.take_append_getElem hkl]; exact near_snoc
    · rw [wsucc (by omega)]
      exact ⟨⟨k + 1, rfl, rfl, hkl, hl, rfl, rfl⟩, by show l.length - (k + 1) < l.length - k; omega, fun _ _ h => h, fun _ _ h => h, trivial⟩
  · rename_i h
    have hkl : ¬ k < l.length := by simpa using h
    obtain rfl : k = l.length := by omega
    exact Or.inl ⟨trivial, trivial, by first | trivial | rfl, by first | trivial | rfl, by first | trivial | rfl, _, rfl, by first | trivial | rfl, rfl, List.take_length⟩
theorem valsStep0 : stepsOk Try.prog (KLS [] [] 30) 100 82 16 (loopBody Try.prog 82 1) 3 false valsFs (valsAlts valsR0 valsR1) valsInv valsMu ⟨_, _, valsSl0, valsBl0, valsZ0⟩ := by
  intro x y hz
  obtain ⟨_, l, n, i, _⟩ := x
  obtain ⟨⟨_, _⟩, _, ⟨_, _⟩, _⟩ := y
  refine (valsForm0 l n i _ _ _).mpr ?_
  obtain ⟨k, rfl, rfl, hk, hl, h0, _⟩ := hz
  obtain rfl : 0 = k := congrArg Prod.fst h0
  rw [ifp_lt]
  simp only [natOf_nat]
  split
  · rename_i h
    have hkl : 0 < l.length := by simpa using h
    refine ⟨idx_ok0 hkl, _, nth_near0 hkl, _, nth_near1 hkl, by decide, _, rfl, _, rfl, by decide, _, rfl, _, rfl, by decide, by decide, by first | trivial | rfl, trivial, Or.inl ⟨l, Wk.refl _, trivial, by first | trivial | rfl, by first | trivial | rfl, by first | trivial | rfl, [l[0]], rfl, by first | trivial | rfl, ?_⟩⟩
    exact ⟨⟨1, by rw [wsucc (by decide)], rfl, hkl, hl, rfl, by cases l with | nil => simp at hkl | cons a l => rfl⟩, by show l.length - Int.toNat (wrapF .i64 (Int.add ((0 : Nat) : Int) 1)) < l.length - 0; rw [wsucc (by decide)]; show l.length - 1 < _; omega, fun _ _ h => h, fun _ _ h => h, trivial⟩
  · rename_i h
    have hkl : ¬ 0 < l.length := by simpa using h
    exact Or.inr ⟨trivial, trivial, by first | trivial | rfl, by first | trivial | rfl, by first | trivial | rfl, by first | trivial | rfl, List.length_eq_zero_iff.1 (by omega)⟩
theorem valsOk : LoopOk Try.prog 82 16 (.loop (loopBody Try.prog 82 1)) valsC := loop_ok valsMu mixed (KLS_ok (cc_nil)) rfl (steps_cons valsStep (steps_cons valsStep0 (steps_nil)))

open Go.Sort Go.Shelf in
theorem sorts : Sorts Try.prog 53 52 En (fun x => [.int .i64 x.1, .int .i64 x.2.1]) ordV := by
  have swo : SWO (Go.Proofs.ltOf ordV) := by
    have e : ∀ x y, Go.Proofs.ltOf ordV x y = lessV x y := fun _ _ => rfl
    refine ⟨fun x => ?_, fun x y z h1 h2 => ?_, fun x y z h1 h2 => ?_⟩
    · rw [e, ← Bool.not_eq_true, lessV_iff]; omega
    · rw [e, lessV_iff] at *; omega
    · rw [e, ← Bool.not_eq_true, lessV_iff] at *; omega
  have tot : ∀ x y, Go.Proofs.ltOf ordV x y = false → Go.Proofs.ltOf ordV y x = false → x = y := fun x y h1 h2 => by
    have e : ∀ x y, Go.Proofs.ltOf ordV x y = lessV x y := fun _ _ => rfl
    rw [e, ← Bool.not_eq_true, lessV_iff] at h1 h2
    obtain ⟨a, b, _⟩ := x
    obtain ⟨c, d, _⟩ := y
    simp only at h1 h2
    rw [show a = c by omega, show b = d by omega]
  exact
  { to := fun ρ x => .cons (.int _ _) (.cons (.int _ _) .nil)
    from' := fun ρ x l h => by cases h with | cons h1 t => cases t with | cons h2 t => cases t; cases h1; cases h2; rfl
    enter := enters_of Try.func53 (by kernel_rfl) rfl
    val := fun x y => orderVal x y trivial
    some' := fun blk off cap d w hc hH hb hs => AnyQ.slices_SortFunc_total Try.sort53 2 Try.isAgg30 Try.sizeOf30 _ (fun _ => rfl) (fun x v hv => by simp at hv; rcases hv with rfl | rfl <;> rfl) ordV swo _ #[] blk off cap d w (enters_of Try.func52 (by kernel_rfl) rfl) hc hH hb hs tot
    none' := fun p cap fv w => AnyF.slices_SortFunc_none { Try.sort53 with } p cap fv w }

def nearSort (l : List Near) : List Near := l.mergeSort fun x y => !lessV y x
theorem nearSort_len (l : List Near) : (nearSort l).length = l.length := List.length_mergeSort l
noncomputable def sortK : CallC := sortC En 30 52 nearSort
theorem sortCc : CcOk Try.prog 53 sortK := sort_ok sorts (fun _ => rfl) 30

/-! wayfinder/rank.Sorted -/
noncomputable def sortedT : Tel ((List Near) × Unit) := .cons 0 (.lst En) (.nil)

theorem sortedFn (l : List Near) (Q : AV → Prop) : (callW Try.prog (runW Try.prog (KLS [(53, sortK)] [(82, [(1, valsC)])] 30) 200) 18 (sortedT.cells id (l, ())) (stE false) (fun x st => frzW st x Q)) =
  ( LoopOk Try.prog (82 : Nat) (16 : Nat) (loopBody Try.prog (82 : Nat) (1 : Nat)).loop valsC ∧ True ∧ True ∧ ((∃ (l_1 : List Near), Wk (AV.vs (List.flatMap En.f l)
  l.length l.length false none (2 : Nat)) (lst En l_1) ∧ True ∧ [(7 : Nat)] = [(7 : Nat)] ∧ rangeAs Try.prog (105 : FuncId) (3 : Nat) = rangeAs Try.prog (105 :
  FuncId) (3 : Nat) ∧ rangeBody Try.prog (105 : FuncId) (3 : Nat) = rangeBody Try.prog (105 : FuncId) (3 : Nat) ∧ False) ∨ ∃ (l_1 : List Near), Wk (AV.vs
  (List.flatMap En.f l) l.length l.length false none (2 : Nat)) (lst En l_1) ∧ True ∧ [(7 : Nat)] = [(7 : Nat)] ∧ rangeAs Try.prog (105 : FuncId) (3 : Nat) =
  rangeAs Try.prog (105 : FuncId) (3 : Nat) ∧ rangeBody Try.prog (105 : FuncId) (3 : Nat) = rangeBody Try.prog (105 : FuncId) (3 : Nat) ∧ true = true ∧ valsInv
  (((), l_1, Int.ofNat l.length, (0 : Int), ()), ((), ()), (), (((0 : Nat), (0 : Nat)), ()), [], ()) ∧ (∀ (c : Unit) (d : (Unit × Unit) × Unit × ((Nat × Nat) ×
  Unit) × List Near × Unit), valsR0 (((), l_1, Int.ofNat l.length, (0 : Int), ()), ((), ()), (), (((0 : Nat), (0 : Nat)), ()), [], ()) c d → (∃ (l : List Near),
  List.flatMap En.f d.2.2.2.1 = List.flatMap En.f l ∧ true = true ∧ ((d.2.2.1.1.fst, d.2.2.1.1.snd).fst = l.length ∧ l.length < (4611686018427387904 : Nat)) ∧ (∀
  (c : Unit) (d_1 : List Near × Unit), d_1.1 = nearSort l → Nat.add (0 : Nat) (d.2.2.1.1.fst.mul (2 : Nat)) ≤ (List.flatMap En.f d_1.1).length ∧ Q (AV.vs
  (List.take (d.2.2.1.1.fst.mul (2 : Nat)) (List.drop (0 : Nat) (List.flatMap En.f d_1.1))) d.2.2.1.1.fst d.2.2.1.1.snd false none (2 : Nat))) ∧ True) ∨ False) ∧
  (∀ (c : Unit) (d : (Unit × Unit) × Unit × (Unit × Unit) × Unit), valsR1 (((), l_1, Int.ofNat l.length, (0 : Int), ()), ((), ()), (), (((0 : Nat), (0 : Nat)),
  ()), [], ()) c d → False ∨ True ∧ Q AV.nilSlice) ∧ True)) := by kernel_rfl

def sortedPre : (List Near) × Unit → Prop := fun (l, ()) => l.length ≤ 1000000
noncomputable def sortedRes : (List Near) × Unit → AV := fun (l, ()) => lst En (nearSort l)
noncomputable def sortedK : CallC := valC sortedT sortedPre sortedRes

theorem sortedVal (l : List Near) (hp : sortedPre (l, ())) : Val Try.prog 18 (sortedT.cells id (l, ())) (sortedRes (l, ())) := by
  refine Val.ofF mixed (KLS_ok (cc_cons sortCc (cc_nil))) (freesC rfl _) (sortedFn l) ?_
  refine ⟨valsOk, trivial, trivial, Or.inr ⟨l, Wk.refl _, trivial, by first | trivial | rfl, by first | trivial | rfl, by first | trivial | rfl, by first | trivial | rfl, ⟨0, rfl, rfl, by omega, hp, rfl, rfl⟩, fun _ d hr => Or.inl ?_, fun _ _ hr => Or.inr ⟨trivial, ?_⟩, trivial⟩⟩
  · obtain ⟨_, _, ⟨q, _⟩, m, _⟩ := d
    obtain ⟨rfl, rfl⟩ := hr
    refine ⟨m, rfl, by first | trivial | rfl, ⟨rfl, by have := hp; simp only [sortedPre] at this; omega⟩, fun _ d hd => ?_, trivial⟩
    obtain ⟨s, _⟩ := d
    obtain rfl : s = nearSort m := hd
    have hl := nearSort_len m
    refine ⟨by rw [near_len, hl]; show 0 + m.length * 2 ≤ _; omega, ?_⟩
    exact tells_lst ⟨by show List.take (m.length * 2) _ = _; rw [List.drop_zero, List.take_of_length_le (by rw [near_len, hl]; omega)], hl.symm, rfl⟩
  · obtain rfl : l = [] := hr
    show Tells .nilSlice (lst En (nearSort []))
    rw [show nearSort [] = [] by simp [nearSort]]
    exact tells_nil _
theorem sortedCc : CcOk Try.prog 18 sortedK := val_ok rfl (fun ⟨l, _⟩ h => sortedVal l h)

open Go.Det.Hp in
theorem ltLess : Lt lessV where
  irr a := by rw [← Bool.not_eq_true, lessV_iff]; omega
  tr a b c h1 h2 := by rw [lessV_iff] at *; omega
  tot a b h1 h2 := by
    rw [← Bool.not_eq_true, lessV_iff] at h1 h2
    obtain ⟨a1, a2, _⟩ := a
    obtain ⟨b1, b2, _⟩ := b
    simp only at h1 h2
    rw [show a1 = b1 by omega, show a2 = b2 by omega]

theorem nth_nearR0 {l : List Near} {k : Nat} (h : k < l.length) : nth (Nat.add (Nat.add 0 (Nat.mul k 2)) 0) (l.flatMap En.f) = some (.int .i64 l[k].1) := by rw [show Nat.add 0 (Nat.mul k 2) = Nat.mul k 2 from Nat.zero_add _]; exact nth_near0 h
theorem nth_nearR1 {l : List Near} {k : Nat} (h : k < l.length) : nth (Nat.add (Nat.add 0 (Nat.mul k 2)) 1) (l.flatMap En.f) = some (.int .i64 l[k].2.1) := by rw [show Nat.add 0 (Nat.mul k 2) = Nat.mul k 2 from Nat.zero_add _]; exact nth_near1 h
theorem near_take : ∀ (l : List Near) (k : Nat), (l.flatMap En.f).take (k * 2) = (l.take k).flatMap En.f
  | [], k => by simp
  | a :: l, 0 => by simp
  | a :: l, k + 1 => by
    rw [show (k + 1) * 2 = k * 2 + 1 + 1 by omega, List.take_succ_cons, List.flatMap_cons, List.flatMap_cons, ← near_take l k]
    show List.take (k * 2 + 1 + 1) (_ :: _ :: _) = _ :: _ :: _
    rw [List.take_succ_cons, List.take_succ_cons]; rfl
theorem near_drop : ∀ (l : List Near) (k : Nat), (l.flatMap En.f).drop (k * 2) = (l.drop k).flatMap En.f
  | [], k => by simp
  | a :: l, 0 => by simp
  | a :: l, k + 1 => by
    rw [show (k + 1) * 2 = k * 2 + 1 + 1 by omega, List.drop_succ_cons, List.flatMap_cons, ← near_drop l k]
    show List.drop (k * 2 + 1 + 1) (_ :: _ :: _) = _
    rw [List.drop_succ_cons, List.drop_succ_cons]; rfl
theorem near_set {l : List Near} {k : Nat} {x : Near} (h : k < l.length) : setAt (Nat.add 0 (Nat.mul k 2)) [AV.int .i64 x.1, AV.int .i64 x.2.1] (l.flatMap En.f) = (l.set k x).flatMap En.f := by
  rw [show Nat.add 0 (Nat.mul k 2) = k * 2 from Nat.zero_add _, setAt, near_take]
  show _ ++ _ ++ List.drop (k * 2 + 2) _ = _
  rw [show k * 2 + 2 = (k + 1) * 2 by omega, near_drop, List.set_eq_take_append_cons_drop, if_pos h, List.flatMap_append, List.flatMap_cons, List.append_assoc]; rfl
theorem near_fit {l : List Near} {k n : Nat} (h : k < n) (hn : l.length = n) : (Nat.add 0 (Nat.mul k 2)).add 2 ≤ (l.flatMap En.f).length := by
  rw [near_len, show Nat.add 0 (Nat.mul k 2) = k * 2 from Nat.zero_add _]; show k * 2 + 2 ≤ _; omega
theorem half {k : Nat} (h0 : 0 < k) (hk : k ≤ 1000000) : wrapF .i64 (Int.tdiv (wrapF .i64 (Int.sub (k : Int) 1)) 2) = (((k - 1) / 2 : Nat) : Int) := by
  have e : wrapF .i64 (Int.sub (k : Int) 1) = ((k - 1 : Nat) : Int) := by rw [w64 (by show _ ≤ (k : Int) - 1; omega) (by show (k : Int) - 1 < _; omega)]; show (k : Int) - 1 = _; omega
  rw [e, show Int.tdiv ((k - 1 : Nat) : Int) 2 = (((k - 1) / 2 : Nat) : Int) from rfl, w64 (by omega) (by omega)]

def posV (l : List Near) (n : Near) : Nat → Nat
  | 0 => 0
  | k + 1 => if lessV n (l.getD k n) = true then posV l n k else k + 1
def insV (l : List Near) (n : Near) : List Near := l.take (posV l n l.length) ++ n :: l.drop (posV l n l.length)

theorem posV_le (l : List Near) (n : Near) : ∀ k, posV l n k ≤ k
  | 0 => Nat.le_refl _
  | k + 1 => by
    rw [posV]; split
    · exact Nat.le_succ_of_le (posV_le l n k)
    · exact Nat.le_refl _

/-! The loop into of wayfinder/wayfinderref04.into. -/
abbrev intoZ := ((List Near) × Unit × Int × Unit) × ((Int × Int × Unit) × Unit)
noncomputable def intoSl : Tel ((List Near) × Unit × Int × Unit) := .cons 0 (.lst En) (.cons 3 (.ptr 0) (.cons 5 (.int .i64) (.nil)))
noncomputable def intoBl : BTel ((Int × Int × Unit) × Unit) := .cons (.row (.cons 0 (.int .i64) (.cons 1 (.int .i64) (.nil)))) (.nil)
noncomputable def intoFs : List (LForm intoZ) := [⟨_, _, intoSl, intoBl, fun x y => (x, y)⟩]
noncomputable def intoAlts (R0 : intoZ → ((List Near) × Unit × Int × Unit) → ((Int × Int × Unit) × Unit) → Prop) : List (Alt intoZ) := [⟨.exit 0, (List Near) × Unit × Int × Unit, (Int × Int × Unit) × Unit, .cons 0 (.lst En) (.cons 3 (.ptr 0) (.cons 5 (.int .i64) (.nil))), .cons (.row (.cons 0 (.int .i64) (.cons 1 (.int .i64) (.nil)))) (.nil), R0⟩]

theorem intoForm (l : List Near) (k : Int) (d : Int) (i : Int) (N : intoZ → Prop) (R0 : intoZ → ((List Near) × Unit × Int × Unit) → ((Int × Int × Unit) × Unit) → Prop) : ((runW Try.prog (KL [(20, rlessK)] []) 100).code none 56 33 (loopBody Try.prog 56 2) (mkT (intoSl.av id (l, ((), (k, ()))))) [] (stL true (intoBl.obs id ((d, (i, ())), ()))) (postL 1 intoFs (intoAlts R0) ((l, ((), (k, ()))), ((d, (i, ())), ())) N)) =
  ( ifp (!leInt k (0 : Int)) (idxOk (wrapF IntKind.i64 (k.sub (1 : Int))) l.length ∧ ∃ (x : Int), nth (((natOf (wrapF IntKind.i64 (k.sub (1 : Int)))).mul (2 :
  Nat)).add (0 : Nat)) (List.flatMap En.f l) = some (AV.int IntKind.i64 x) ∧ ∃ (x_1 : Int), nth (((natOf (wrapF IntKind.i64 (k.sub (1 : Int)))).mul (2 :
  Nat)).add (1 : Nat)) (List.flatMap En.f l) = some (AV.int IntKind.i64 x_1) ∧ ∃ (a : Near), AV.agg [AV.int IntKind.i64 d, AV.int IntKind.i64 i] = AV.agg [AV.int
  IntKind.i64 a.fst, AV.int IntKind.i64 a.snd.fst] ∧ ∃ (a_1 : Near), AV.agg [AV.int IntKind.i64 x, AV.int IntKind.i64 x_1] = AV.agg [AV.int IntKind.i64 a_1.fst,
  AV.int IntKind.i64 a_1.snd.fst] ∧ rlessPre (a, a_1, ()) ∧ ifp (lessV a a_1) (True ∧ True ∧ True ∧ ∃ (l_1 : List Near), Wk (AV.vs (List.flatMap En.f l) l.length
  l.length false none (2 : Nat)) (lst En l_1) ∧ true = true ∧ N ((l_1, (), wrapF IntKind.i64 (k.sub (1 : Int)), ()), (d, i, ()), ())) (True ∧ True ∧ True ∧ ∃
  (l_1 : List Near), Wk (AV.vs (List.flatMap En.f l) l.length l.length false none (2 : Nat)) (lst En l_1) ∧ true = true ∧ R0 ((l, (), k, ()), (d, i, ()), ())
  (l_1, (), k, ()) ((d, i, ()), ()))) (True ∧ ∃ (l_1 : List Near), Wk (AV.vs (List.flatMap En.f l) l.length l.length false none (2 : Nat)) (lst En l_1) ∧ true =
  true ∧ R0 ((l, (), k, ()), (d, i, ()), ()) (l_1, (), k, ()) ((d, i, ()), ()))) := by kernel_rfl

def intoInv : intoZ → Prop := fun ((l, ((), (k, ()))), ((d, (i, ())), ())) => ∃ q : Nat, k = q ∧ q ≤ l.length ∧ l.length ≤ 1000000
def intoMu : intoZ → Nat := fun ((l, ((), (k, ()))), ((d, (i, ())), ())) => k.toNat
def intoR0 : intoZ → ((List Near) × Unit × Int × Unit) → ((Int × Int × Unit) × Unit) → Prop := fun ((l, ((), (k, ()))), ((d, (i, ())), ())) (l2, _, k2, _) ((d2, i2, _), _) => l2 = l ∧ d2 = d ∧ i2 = i ∧ k2 = (posV l (d, i, ()) k.toNat : Nat)
noncomputable def intoC : LoopC := loopC 1 intoFs (intoAlts intoR0) intoInv

theorem intoStep : stepsOk Try.prog (KL [(20, rlessK)] []) 100 56 33 (loopBody Try.prog 56 2) 1 true intoFs (intoAlts intoR0) intoInv intoMu ⟨_, _, intoSl, intoBl, fun x y => (x, y)⟩ := by
  intro x y hz
  obtain ⟨l, _, k, _⟩ := x
  obtain ⟨⟨d, i, _⟩, _⟩ := y
  refine (intoForm l k d i _ _).mpr ?_
  obtain ⟨q, rfl, hq, hl⟩ := hz
  rw [ifp_lt]
  split
  · rename_i h
    obtain ⟨p, rfl⟩ : ∃ p, q = p + 1 := ⟨q - 1, by omega⟩
    have e : wrapF .i64 (Int.sub ((p + 1 : Nat) : Int) 1) = (p : Int) := by rw [w64 (by show _ ≤ ((p + 1 : Nat) : Int) - 1; omega) (by show ((p + 1 : Nat) : Int) - 1 < _; omega)]; show ((p + 1 : Nat) : Int) - 1 = _; omega
    have hp : p < l.length := by omega
    have hg : l.getD p (d, i, ()) = l[p] := by simp [hp]
    simp only [e, natOf_nat]
    refine ⟨idx_ok hp, _, nth_near0 hp, _, nth_near1 hp, (d, i, ()), rfl, l[p], rfl, trivial, ?_⟩
    rw [ifp_if]
    split
    · rename_i hlt
      refine ⟨trivial, trivial, trivial, l, Wk.refl _, by first | trivial | rfl, ⟨p, rfl, by omega, hl⟩, by show p < p + 1; omega, fun c d' hr => ?_, trivial⟩
      obtain ⟨l2, _, k2, _⟩ := c
      obtain ⟨⟨d2, i2, _⟩, _⟩ := d'
      obtain ⟨a, b, c, e⟩ := hr
      refine ⟨a, b, c, ?_⟩
      rw [e]
      show ((posV l (d, i, ()) p : Nat) : Int) = ((posV l (d, i, ()) (p + 1) : Nat) : Int)
      rw [posV, if_pos (by rw [hg]; exact hlt)]
    · rename_i hlt
      refine ⟨trivial, trivial, trivial, l, Wk.refl _, by first | trivial | rfl, rfl, rfl, rfl, ?_⟩
      show ((p + 1 : Nat) : Int) = ((posV l (d, i, ()) (p + 1) : Nat) : Int)
      rw [posV, if_neg (by rw [hg]; exact hlt)]
  · rename_i h
    obtain rfl : q = 0 := by omega
    exact ⟨trivial, l, Wk.refl _, by first | trivial | rfl, rfl, rfl, rfl, rfl⟩
theorem intoOk : LoopOk Try.prog 56 33 (.loop (loopBody Try.prog 56 2)) intoC := loop_ok intoMu mixed (KL_ok (cc_cons rlessCc (cc_nil))) rfl (steps_cons intoStep (steps_nil))

/-! wayfinder/wayfinderref04.into -/
noncomputable def intoT : Tel ((List Near) × Near × Unit) := .cons 0 (.lst En) (.cons 1 (.agg En) (.nil))

theorem intoFn (l : List Near) (n : Near) (Q : AV → Prop) : (callW Try.prog (runW Try.prog (KL [(20, rlessK)] [(56, [(2, intoC)])]) 200) 56 (intoT.cells id (l, (n, ()))) (stE true) (fun x st => frzW st x Q)) =
  ( LoopOk Try.prog (56 : FuncId) (33 : Nat) (loopBody Try.prog (56 : FuncId) (2 : Nat)).loop intoC ∧ True ∧ True ∧ ∃ (l_1 : List Near), Wk (AV.vs (List.flatMap
  En.f l) l.length l.length false none (2 : Nat)) (lst En l_1) ∧ true = true ∧ intoInv ((l_1, (), Int.ofNat l.length, ()), (n.fst, n.snd.fst, ()), ()) ∧ (∀ (c :
  List Near × Unit × Int × Unit) (d : (Int × Int × Unit) × Unit), intoR0 ((l_1, (), Int.ofNat l.length, ()), (n.fst, n.snd.fst, ()), ()) c d → (0 : Int) ≤
  c.2.2.1 ∧ c.2.2.1 ≤ ↑c.1.length ∧ natOf c.2.2.1 ≤ c.1.length ∧ (List.flatMap En.f c.1).length = c.1.length.mul (2 : Nat) ∧ (List.take (((natOf c.2.2.1).sub (0
  : Nat)).mul (2 : Nat)) (List.drop (0 : Nat) (List.flatMap En.f c.1))).length = ((natOf c.2.2.1).sub (0 : Nat)).mul (2 : Nat) ∧ ifp (allScalar (List.take
  (((natOf c.2.2.1).sub (0 : Nat)).mul (2 : Nat)) (List.drop (0 : Nat) (List.flatMap En.f c.1))) && true) (ifp (roomy (Nat.add (0 : Nat) ((natOf c.2.2.1).sub (0
  : Nat))) (16 : Nat)) ((2 : Nat) ≤ (2 : Nat) ∧ ifp (roomy ((Nat.add (0 : Nat) ((natOf c.2.2.1).sub (0 : Nat))).add (1 : Nat)) (16 : Nat)) ((0 : Int) ≤ c.2.2.1 ∧
  c.2.2.1 ≤ ↑c.1.length ∧ c.1.length ≤ c.1.length ∧ (List.flatMap En.f c.1).length = c.1.length.mul (2 : Nat) ∧ (List.take ((c.1.length.sub (natOf c.2.2.1)).mul
  (2 : Nat)) (List.drop ((natOf c.2.2.1).mul (2 : Nat)) (List.flatMap En.f c.1))).length = (c.1.length.sub (natOf c.2.2.1)).mul (2 : Nat) ∧ ifp (allScalar
  (List.take ((c.1.length.sub (natOf c.2.2.1)).mul (2 : Nat)) (List.drop ((natOf c.2.2.1).mul (2 : Nat)) (List.flatMap En.f c.1))) && true) (ifp (roomy
  (((Nat.add (0 : Nat) ((natOf c.2.2.1).sub (0 : Nat))).add (1 : Nat)).add (c.1.length.sub (natOf c.2.2.1))) (16 : Nat)) (True ∧ (AV.agg [AV.int IntKind.i64
  d.1.1, AV.int IntKind.i64 d.1.2.1] = AV.agg [AV.int IntKind.i64 d.1.1, AV.int IntKind.i64 d.1.2.1] ∧ True) ∧ (((0 : Int) ≤ c.2.2.1 ∧ c.2.2.1 ≤ ↑c.1.length ∧
  c.1.length ≤ c.1.length ∧ (List.flatMap En.f c.1).length = c.1.length.mul (2 : Nat) ∧ AV.vs (List.take ((c.1.length.sub (natOf c.2.2.1)).mul (2 : Nat))
  (List.drop ((natOf c.2.2.1).mul (2 : Nat)) (List.flatMap En.f c.1))) (c.1.length.sub (natOf c.2.2.1)) (c.1.length.sub (natOf c.2.2.1)) (mxEx none false) none
  (2 : Nat) = AV.vs (List.take ((c.1.length.sub (natOf c.2.2.1)).mul (2 : Nat)) (List.drop ((natOf c.2.2.1).mul (2 : Nat)) (List.flatMap En.f c.1)))
  (c.1.length.sub (natOf c.2.2.1)) (c.1.length.sub (natOf c.2.2.1)) (mxEx none false) none (2 : Nat)) ∧ ((0 : Int) ≤ c.2.2.1 ∧ c.2.2.1 ≤ ↑c.1.length ∧ c.1.length
  ≤ c.1.length ∧ (List.flatMap En.f c.1).length = c.1.length.mul (2 : Nat) ∧ AV.vs (List.take ((c.1.length.sub (natOf c.2.2.1)).mul (2 : Nat)) (List.drop ((natOf
  c.2.2.1).mul (2 : Nat)) (List.flatMap En.f c.1))) (c.1.length.sub (natOf c.2.2.1)) (c.1.length.sub (natOf c.2.2.1)) (mxEx none false) none (2 : Nat) = AV.vs
  (List.take ((c.1.length.sub (natOf c.2.2.1)).mul (2 : Nat)) (List.drop ((natOf c.2.2.1).mul (2 : Nat)) (List.flatMap En.f c.1))) (c.1.length.sub (natOf
  c.2.2.1)) (c.1.length.sub (natOf c.2.2.1)) (mxEx none false) none (2 : Nat)) ∧ True) ∧ Q (AV.vs ([] ++ List.take (((natOf c.2.2.1).sub (0 : Nat)).mul (2 :
  Nat)) (List.drop (0 : Nat) (List.flatMap En.f c.1)) ++ [AV.int IntKind.i64 d.1.1, AV.int IntKind.i64 d.1.2.1] ++ List.take ((c.1.length.sub (natOf
  c.2.2.1)).mul (2 : Nat)) (List.drop ((natOf c.2.2.1).mul (2 : Nat)) (List.flatMap En.f c.1))) (((Nat.add (0 : Nat) ((natOf c.2.2.1).sub (0 : Nat))).add (1 :
  Nat)).add (c.1.length.sub (natOf c.2.2.1))) (((Nat.add (0 : Nat) ((natOf c.2.2.1).sub (0 : Nat))).add (1 : Nat)).add (c.1.length.sub (natOf c.2.2.1))) false
  (some (16 : Nat)) (2 : Nat))) False) False) False) False) False) ∧ True) := by kernel_rfl

def intoPre : (List Near) × Near × Unit → Prop := fun (l, (n, ())) => l.length ≤ 1000000
noncomputable def intoRes : (List Near) × Near × Unit → AV := fun (l, (n, ())) => lst En (insV l n)
noncomputable def intoK : CallC := valC intoT intoPre intoRes

theorem intoVal (l : List Near) (n : Near) (hp : intoPre (l, (n, ()))) : Val Try.prog 56 (intoT.cells id (l, (n, ()))) (intoRes (l, (n, ()))) := by
  refine Val.ofF mixed (KL_ok (cc_cons rlessCc (cc_nil))) (freesC rfl _) (intoFn l n) ?_
  have hp' : l.length ≤ 1000000 := hp
  refine ⟨intoOk, trivial, trivial, l, Wk.refl _, rfl, ⟨l.length, rfl, Nat.le_refl _, hp⟩, fun c d hr => ?_, trivial⟩
  obtain ⟨l2, _, k2, _⟩ := c
  obtain ⟨⟨d2, i2, _⟩, _⟩ := d
  obtain ⟨h1, h2, h3, hk⟩ := hr
  obtain rfl : l2 = l := h1
  obtain rfl : d2 = n.1 := h2
  obtain rfl : i2 = n.2.1 := h3
  obtain ⟨p, hpe⟩ : ∃ p : Nat, p = posV l2 n l2.length := ⟨_, rfl⟩
  have hple : p ≤ l2.length := by rw [hpe]; exact posV_le _ _ _
  obtain rfl : k2 = (p : Int) := by rw [hpe]; exact hk
  simp only [natOf_nat]
  have e1 : List.take (Nat.mul (Nat.sub p 0) 2) (List.drop 0 (List.flatMap En.f l2)) = (l2.take p).flatMap En.f := by rw [List.drop_zero]; exact near_take l2 p
  have e2 : List.take (Nat.mul (Nat.sub l2.length p) 2) (List.drop (Nat.mul p 2) (List.flatMap En.f l2)) = (l2.drop p).flatMap En.f := by
    rw [show Nat.mul p 2 = p * 2 from rfl, near_drop, List.take_of_length_le (by rw [near_len, List.length_drop]; exact Nat.le_refl _)]
  simp only [e1, e2]
  have b1 : (0 : Int) ≤ (p : Int) := Int.natCast_nonneg _
  have b2 : (p : Int) ≤ ((l2.length : Nat) : Int) := by omega
  refine ⟨b1, b2, hple, Enc.flen En l2, by rw [near_len, List.length_take]; show min p l2.length * 2 = p * 2; omega, ?_⟩
  rw [ifp_pos (by rw [Enc.fscal En]; rfl), ifp_pos (roomy_small (by simp only [Nat.add_eq, Nat.sub_eq]; omega) (by decide))]
  refine ⟨by decide, ?_⟩
  rw [ifp_pos (roomy_small (by simp only [Nat.add_eq, Nat.sub_eq]; omega) (by decide))]
  refine ⟨b1, b2, Nat.le_refl _, Enc.flen En l2, by rw [near_len, List.length_drop]; rfl, ?_⟩
  rw [ifp_pos (by rw [Enc.fscal En]; rfl), ifp_pos (roomy_small (by simp only [Nat.add_eq, Nat.sub_eq]; omega) (by decide))]
  refine ⟨trivial, ⟨by first | trivial | rfl, trivial⟩, ⟨⟨b1, b2, Nat.le_refl _, Enc.flen En l2, by first | trivial | rfl⟩, ⟨b1, b2, Nat.le_refl _, Enc.flen En l2, by first | trivial | rfl⟩, trivial⟩, ?_⟩
  refine tells_lst ⟨?_, ?_, rfl⟩
  · rw [insV, ← hpe, List.flatMap_append, List.flatMap_cons, List.nil_append, List.append_assoc]; rfl
  · rw [insV, ← hpe, List.length_append, List.length_cons, List.length_take, List.length_drop]; simp only [Nat.add_eq, Nat.sub_eq]; omega
theorem intoCc : CcOk Try.prog 56 intoK := val_ok rfl (fun ⟨l, ⟨n, _⟩⟩ h => intoVal l n h)

/-! wayfinder/wayfinderkit.Own[wayfinder/api.Near] -/
noncomputable def ownNT : Tel ((List Near) × Unit) := .cons 0 (.lst En) (.nil)

theorem ownNFn (l : List Near) (Q : AV → Prop) : (callW Try.prog (runW Try.prog (KL [] []) 200) 21 (ownNT.cells id (l, ())) (stE true) (fun x st => frzW st x Q)) =
  ( (List.flatMap En.f l).length = l.length.mul (2 : Nat) ∧ ifp (allScalar (List.flatMap En.f l) && true) (ifp (roomy (Nat.add (0 : Nat) l.length) (16 : Nat)) (Q
  (AV.vs ([] ++ List.flatMap En.f l) (Nat.add (0 : Nat) l.length) (Nat.add (0 : Nat) l.length) false (some (1 : Nat)) (2 : Nat))) False) False) := by kernel_rfl

def ownNPre : (List Near) × Unit → Prop := fun (l, ()) => l.length ≤ 1000000
noncomputable def ownNRes : (List Near) × Unit → AV := fun (l, ()) => lst En l
noncomputable def ownNK : CallC := valC ownNT ownNPre ownNRes

theorem ownNVal (l : List Near) (hp : ownNPre (l, ())) : Val Try.prog 21 (ownNT.cells id (l, ())) (ownNRes (l, ())) := by
  refine Val.ofF mixed (KL_ok (cc_nil)) (freesC rfl _) (ownNFn l) ?_
  have hp' : l.length ≤ 1000000 := hp
  refine ⟨Enc.flen En l, ?_⟩
  rw [ifp_pos (by rw [Enc.fscal En]; rfl), ifp_pos (roomy_small (by simp only [Nat.add_eq]; omega) (by decide))]
  exact tells_lst ⟨rfl, by show 0 + l.length = _; omega, rfl⟩
theorem ownNCc : CcOk Try.prog 21 ownNK := val_ok rfl (fun ⟨l, _⟩ h => ownNVal l h)

def insAll (l : List Near) : List Near := l.foldl insV []
theorem insV_len (l : List Near) (n : Near) : (insV l n).length = l.length + 1 := by
  have := posV_le l n l.length
  rw [insV, List.length_append, List.length_cons, List.length_take, List.length_drop]; omega
theorem insAll_snoc (l : List Near) (x : Near) : insAll (l ++ [x]) = insV (insAll l) x := by simp [insAll, List.foldl_append]

/-! The loop rsrt of wayfinder/wayfinderref04.Sorted. -/
abbrev rsrtZ := ((List Near) × (List Near) × Int × Unit) × (Unit)
noncomputable def rsrtSl : Tel ((List Near) × (List Near) × Int × Unit) := .cons 0 (.lst En) (.cons 3 (.lst En) (.cons 4 (.int .i64) (.nil)))
noncomputable def rsrtBl : BTel (Unit) := .nil
noncomputable def rsrtFs : List (LForm rsrtZ) := [⟨_, _, rsrtSl, rsrtBl, fun x y => (x, y)⟩]
noncomputable def rsrtAlts (R0 : rsrtZ → ((List Near) × Unit) → (Unit) → Prop) : List (Alt rsrtZ) := [⟨.exit 0, (List Near) × Unit, Unit, .cons 3 (.lst En) (.nil), .nil, R0⟩]

theorem rsrtForm (l : List Near) (out : List Near) (i : Int) (N : rsrtZ → Prop) (R0 : rsrtZ → ((List Near) × Unit) → (Unit) → Prop) : ((runW Try.prog (KL [(56, intoK)] []) 100).code none 22 18 (loopBody Try.prog 22 3) (mkT (rsrtSl.av id (l, (out, (i, ()))))) [] (stL false (rsrtBl.obs id ())) (postL 0 rsrtFs (rsrtAlts R0) ((l, (out, (i, ()))), ()) N)) =
  ( ifp (!leInt (Int.ofNat l.length) i) (idxOk i l.length ∧ ∃ (x : Int), nth (((natOf i).mul (2 : Nat)).add (0 : Nat)) (List.flatMap En.f l) = some (AV.int
  IntKind.i64 x) ∧ ∃ (x_1 : Int), nth (((natOf i).mul (2 : Nat)).add (1 : Nat)) (List.flatMap En.f l) = some (AV.int IntKind.i64 x_1) ∧ ∃ (l_1 : List Near), Wk
  (AV.vs (List.flatMap En.f out) out.length out.length false none (2 : Nat)) (lst En l_1) ∧ ∃ (a : Near), AV.agg [AV.int IntKind.i64 x, AV.int IntKind.i64 x_1] =
  AV.agg [AV.int IntKind.i64 a.fst, AV.int IntKind.i64 a.snd.fst] ∧ intoPre (l_1, a, ()) ∧ True ∧ ∃ (l_2 : List Near), Wk (AV.vs (List.flatMap En.f l) l.length
  l.length false none (2 : Nat)) (lst En l_2) ∧ ∃ (l : List Near), Wk (AV.vs (List.flatMap En.f (insV l_1 a)) (insV l_1 a).length (insV l_1 a).length false none
  (2 : Nat)) (lst En l) ∧ true = true ∧ N ((l_2, l, wrapF IntKind.i64 (i.add (1 : Int)), ()), ())) (True ∧ ∃ (l_1 : List Near), Wk (AV.vs (List.flatMap En.f out)
  out.length out.length false none (2 : Nat)) (lst En l_1) ∧ true = true ∧ R0 ((l, out, i, ()), ()) (l_1, ()) ())) := by kernel_rfl

def rsrtInv : rsrtZ → Prop := fun ((l, (out, (i, ()))), ()) => ∃ k : Nat, i = k ∧ k ≤ l.length ∧ l.length ≤ 100000 ∧ out = insAll (l.take k) ∧ out.length = k
def rsrtMu : rsrtZ → Nat := fun ((l, (out, (i, ()))), ()) => l.length - i.toNat
def rsrtR0 : rsrtZ → ((List Near) × Unit) → (Unit) → Prop := fun ((l, (out, (i, ()))), ()) (r, _) _ => r = insAll l
noncomputable def rsrtC : LoopC := loopC 0 rsrtFs (rsrtAlts rsrtR0) rsrtInv

theorem rsrtStep : stepsOk Try.prog (KL [(56, intoK)] []) 100 22 18 (loopBody Try.prog 22 3) 0 false rsrtFs (rsrtAlts rsrtR0) rsrtInv rsrtMu ⟨_, _, rsrtSl, rsrtBl, fun x y => (x, y)⟩ := by
  intro x y hz
  obtain ⟨l, out, i, _⟩ := x
  obtain _ := y
  refine (rsrtForm l out i _ _).mpr ?_
  obtain ⟨k, rfl, hk, hl, ho, hol⟩ := hz
  rw [ifp_lt]
  simp only [natOf_nat]
  split
  · rename_i h
    have hkl : k < l.length := by simpa using h
    refine ⟨idx_ok hkl, _, nth_near0 hkl, _, nth_near1 hkl, ?_⟩
    refine ⟨out, Wk.refl _, l[k], rfl, (by show out.length ≤ 1000000; omega), ?_⟩
    repeat (first
      | (refine ⟨Nat.le_refl _, ?_⟩)
      | (rw [ifp_pos (roomy_small (by simp only [Nat.add_eq]; omega) (by decide))])
      | (refine ⟨trivial, ?_⟩)
      | (refine ⟨(rfl : true = true), ?_⟩)
      | (refine ⟨idx_ok (by omega), ?_⟩)
      | (refine ⟨idx_ok0 (by omega), ?_⟩)
      | (refine ⟨_, nth_int (by omega), ?_⟩)
      | (refine ⟨_, _, _, _, _, _, nth_lst (by omega), ?_⟩)
      | (refine ⟨_, _, _, _, _, _, nth_lst0 (by omega), ?_⟩)
      | (refine ⟨_, Wk.refl _, ?_⟩)
      | (rw [ifp_pos rfl])
      | (refine ⟨(rfl : (_ : List Nat) = _), ?_⟩)
      | (refine ⟨(rfl : (_ : Code) = _), ?_⟩))
    rw [wsucc (by omega)]
    refine ⟨⟨k + 1, rfl, hkl, hl, ?_, by rw [insV_len, hol]⟩, by show l.length - (k + 1) < l.length - k; omega, fun _ _ h => h, trivial⟩
    rw [← List.take_append_getElem hkl, insAll_snoc, ho]
  · rename_i h
    repeat (first
      | (refine ⟨Nat.le_refl _, ?_⟩)
      | (rw [ifp_pos (roomy_small (by simp only [Nat.add_eq]; omega) (by decide))])
      | (refine ⟨trivial, ?_⟩)
      | (refine ⟨(rfl : true = true), ?_⟩)
      | (refine ⟨idx_ok (by omega), ?_⟩)
      | (refine ⟨idx_ok0 (by omega), ?_⟩)
      | (refine ⟨_, nth_int (by omega), ?_⟩)
      | (refine ⟨_, _, _, _, _, _, nth_lst (by omega), ?_⟩)
      | (refine ⟨_, _, _, _, _, _, nth_lst0 (by omega), ?_⟩)
      | (refine ⟨_, Wk.refl _, ?_⟩)
      | (rw [ifp_pos rfl])
      | (refine ⟨(rfl : (_ : List Nat) = _), ?_⟩)
      | (refine ⟨(rfl : (_ : Code) = _), ?_⟩))
    show out = insAll l
    rw [ho, take_all (by simpa using h)]
theorem rsrtOk : LoopOk Try.prog 22 18 (.loop (loopBody Try.prog 22 3)) rsrtC := loop_ok rsrtMu mixed (KL_ok (cc_cons intoCc (cc_nil))) rfl (steps_cons rsrtStep (steps_nil))

/-! wayfinder/wayfinderref04.Sorted -/
noncomputable def rsortedT : Tel ((List Near) × Unit) := .cons 0 (.lst En) (.nil)

theorem rsortedFn (l : List Near) (Q : AV → Prop) : (callW Try.prog (runW Try.prog (KL [(56, intoK)] [(22, [(3, rsrtC)])]) 200) 22 (rsortedT.cells id (l, ())) (stE false) (fun x st => frzW st x Q)) =
  ( LoopOk Try.prog (22 : FuncId) (18 : Nat) (loopBody Try.prog (22 : FuncId) (3 : Nat)).loop rsrtC ∧ True ∧ True ∧ ∃ (l_1 : List Near), Wk (AV.vs (List.flatMap
  En.f l) l.length l.length false none (2 : Nat)) (lst En l_1) ∧ ∃ (l : List Near), Wk AV.nilSlice (lst En l) ∧ true = true ∧ rsrtInv ((l_1, l, (0 : Int), ()),
  ()) ∧ (∀ (c : List Near × Unit) (d : Unit), rsrtR0 ((l_1, l, (0 : Int), ()), ()) c d → Q (AV.vs (List.flatMap En.f c.1) c.1.length c.1.length false none (2 :
  Nat))) ∧ True) := by kernel_rfl

def rsortedPre : (List Near) × Unit → Prop := fun (l, ()) => l.length ≤ 100000
noncomputable def rsortedRes : (List Near) × Unit → AV := fun (l, ()) => lst En (insAll l)
noncomputable def rsortedK : CallC := valC rsortedT rsortedPre rsortedRes

theorem rsortedVal (l : List Near) (hp : rsortedPre (l, ())) : Val Try.prog 22 (rsortedT.cells id (l, ())) (rsortedRes (l, ())) := by
  refine Val.ofF mixed (KL_ok (cc_cons intoCc (cc_nil))) (freesC rfl _) (rsortedFn l) ?_
  refine ⟨rsrtOk, trivial, trivial, l, Wk.refl _, [], wk_nil _, rfl, ⟨0, rfl, Nat.zero_le _, hp, rfl, rfl⟩, fun c _ hr => ?_, trivial⟩
  obtain ⟨r, _⟩ := c
  obtain rfl : r = insAll l := hr
  exact tells_lst ⟨rfl, rfl, rfl⟩
theorem rsortedCc : CcOk Try.prog 22 rsortedK := val_ok rfl (fun ⟨l, _⟩ h => rsortedVal l h)

/-! The loop sameN of wayfinder/wayfinderkit.Same[wayfinder/api.Near]. -/
abbrev sameNZ := ((List Near) × (List Near) × Int × Unit) × (Unit)
noncomputable def sameNSl : Tel ((List Near) × (List Near) × Int × Unit) := .cons 0 (.lst En) (.cons 1 (.lst En) (.cons 5 (.int .i64) (.nil)))
noncomputable def sameNBl : BTel (Unit) := .nil
noncomputable def sameNFs : List (LForm sameNZ) := [⟨_, _, sameNSl, sameNBl, fun x y => (x, y)⟩]
noncomputable def sameNAlts (R0 : sameNZ → (Unit) → (Unit) → Prop) (R1 : sameNZ → (Bool × Unit) → (Unit) → Prop) : List (Alt sameNZ) := [⟨.exit 0, Unit, Unit, .nil, .nil, R0⟩, ⟨.ret, Bool × Unit, Unit, .cons 4 (.bool) (.nil), .nil, R1⟩]

theorem sameNForm (a : List Near) (b : List Near) (i : Int) (N : sameNZ → Prop) (R0 : sameNZ → (Unit) → (Unit) → Prop) (R1 : sameNZ → (Bool × Unit) → (Unit) → Prop) : ((runW Try.prog (KL [] []) 100).code none 17 26 (loopBody Try.prog 17 4) (mkT (sameNSl.av id (a, (b, (i, ()))))) [] (stL false (sameNBl.obs id ())) (postL 0 sameNFs (sameNAlts R0 R1) ((a, (b, (i, ()))), ()) N)) =
  ( ifp (!leInt (Int.ofNat a.length) i) (idxOk i a.length ∧ ∃ (x : Int), nth (((natOf i).mul (2 : Nat)).add (0 : Nat)) (List.flatMap En.f a) = some (AV.int
  IntKind.i64 x) ∧ ∃ (x_1 : Int), nth (((natOf i).mul (2 : Nat)).add (1 : Nat)) (List.flatMap En.f a) = some (AV.int IntKind.i64 x_1) ∧ idxOk i b.length ∧ ∃ (x_2
  : Int), nth (((natOf i).mul (2 : Nat)).add (0 : Nat)) (List.flatMap En.f b) = some (AV.int IntKind.i64 x_2) ∧ ∃ (x_3 : Int), nth (((natOf i).mul (2 : Nat)).add
  (1 : Nat)) (List.flatMap En.f b) = some (AV.int IntKind.i64 x_3) ∧ ifp (eqInt x x_2) (ifp (eqInt x_1 x_3) (True ∧ True ∧ True ∧ ∃ (l : List Near), Wk (AV.vs
  (List.flatMap En.f a) a.length a.length false none (2 : Nat)) (lst En l) ∧ ∃ (l_1 : List Near), Wk (AV.vs (List.flatMap En.f b) b.length b.length false none (2
  : Nat)) (lst En l_1) ∧ true = true ∧ N ((l, l_1, wrapF IntKind.i64 (i.add (1 : Int)), ()), ())) (True ∧ True ∧ True ∧ true = true ∧ R1 ((a, b, i, ()), ())
  (false, ()) ())) (True ∧ True ∧ True ∧ true = true ∧ R1 ((a, b, i, ()), ()) (false, ()) ())) (True ∧ true = true ∧ R0 ((a, b, i, ()), ()) () ())) := by kernel_rfl

def sameNInv : sameNZ → Prop := fun ((a, (b, (i, ()))), ()) => ∃ k : Nat, i = k ∧ k ≤ a.length ∧ a.length ≤ 1000000 ∧ a.length = b.length ∧ a.take k = b.take k
def sameNMu : sameNZ → Nat := fun ((a, (b, (i, ()))), ()) => a.length - i.toNat
def sameNR0 : sameNZ → (Unit) → (Unit) → Prop := fun ((a, (b, (i, ()))), ()) _ _ => a = b
def sameNR1 : sameNZ → (Bool × Unit) → (Unit) → Prop := fun ((a, (b, (i, ()))), ()) (r, _) _ => r = false ∧ a ≠ b
noncomputable def sameNC : LoopC := loopC 0 sameNFs (sameNAlts sameNR0 sameNR1) sameNInv

theorem sameNStep : stepsOk Try.prog (KL [] []) 100 17 26 (loopBody Try.prog 17 4) 0 false sameNFs (sameNAlts sameNR0 sameNR1) sameNInv sameNMu ⟨_, _, sameNSl, sameNBl, fun x y => (x, y)⟩ := by
  intro x y hz
  obtain ⟨a, b, i, _⟩ := x
  obtain _ := y
  refine (sameNForm a b i _ _ _).mpr ?_
  obtain ⟨k, rfl, hk, hl, hab, ht⟩ := hz
  rw [ifp_lt]
  simp only [natOf_nat]
  split
  · rename_i h
    have hka : k < a.length := by simpa using h
    have hkb : k < b.length := by omega
    have far : a[k] ≠ b[k] → a ≠ b := fun hn e => hn (by subst e; rfl)
    refine ⟨idx_ok hka, _, nth_near0 hka, _, nth_near1 hka, idx_ok hkb, _, nth_near0 hkb, _, nth_near1 hkb, ?_⟩
    rw [ifp_eq, ifp_eq]
    split
    · rename_i h1
      split
      · rename_i h2
        refine ⟨trivial, trivial, trivial, a, Wk.refl _, b, Wk.refl _, by first | trivial | rfl, ?_⟩
        rw [wsucc (by omega)]
        refine ⟨⟨k + 1, rfl, hka, hl, hab, ?_⟩, by show a.length - (k + 1) < a.length - k; omega, fun _ _ h => h, fun _ _ h => h, trivial⟩
        have e : a[k] = b[k] := Prod.ext h1 (Prod.ext h2 rfl)
        rw [← List.take_append_getElem hka, ← List.take_append_getElem hkb, ht, e]
      · rename_i h2
        exact ⟨trivial, trivial, trivial, by first | trivial | rfl, rfl, far fun e => h2 (by rw [e])⟩
    · rename_i h1
      exact ⟨trivial, trivial, trivial, by first | trivial | rfl, rfl, far fun e => h1 (by rw [e])⟩
  · rename_i h
    refine ⟨trivial, by first | trivial | rfl, ?_⟩
    show a = b
    rw [take_all (by simpa using h), take_all (by rw [← hab]; simpa using h)] at ht; exact ht
theorem sameNOk : LoopOk Try.prog 17 26 (.loop (loopBody Try.prog 17 4)) sameNC := loop_ok sameNMu mixed (KL_ok (cc_nil)) rfl (steps_cons sameNStep (steps_nil))

/-! wayfinder/wayfinderkit.Same[wayfinder/api.Near] -/
noncomputable def sameNT : Tel ((List Near) × (List Near) × Unit) := .cons 0 (.lst En) (.cons 1 (.lst En) (.nil))

theorem sameNFn (a : List Near) (b : List Near) (Q : AV → Prop) : (callW Try.prog (runW Try.prog (KL [] [(17, [(4, sameNC)])]) 200) 17 (sameNT.cells id (a, (b, ()))) (stE false) (fun x st => frzW st x Q)) =
  ( ifp (!eqInt (Int.ofNat a.length) (Int.ofNat b.length)) (Q (AV.bool false)) (LoopOk Try.prog (17 : FuncId) (26 : Nat) (loopBody Try.prog (17 : FuncId) (4 :
  Nat)).loop sameNC ∧ True ∧ True ∧ ∃ (l : List Near), Wk (AV.vs (List.flatMap En.f a) a.length a.length false none (2 : Nat)) (lst En l) ∧ ∃ (l_1 : List Near),
  Wk (AV.vs (List.flatMap En.f b) b.length b.length false none (2 : Nat)) (lst En l_1) ∧ true = true ∧ sameNInv ((l, l_1, (0 : Int), ()), ()) ∧ (∀ (c d : Unit),
  sameNR0 ((l, l_1, (0 : Int), ()), ()) c d → Q (AV.bool true)) ∧ (∀ (c : Bool × Unit) (d : Unit), sameNR1 ((l, l_1, (0 : Int), ()), ()) c d → Q (AV.bool c.1)) ∧
  True)) := by kernel_rfl

def sameNPre : (List Near) × (List Near) × Unit → Prop := fun (a, (b, ())) => a.length ≤ 1000000
noncomputable def sameNRes : (List Near) × (List Near) × Unit → AV := fun (a, (b, ())) => .bool (decide (a = b))
noncomputable def sameNK : CallC := valC sameNT sameNPre sameNRes

theorem sameNVal (a : List Near) (b : List Near) (hp : sameNPre (a, (b, ()))) : Val Try.prog 17 (sameNT.cells id (a, (b, ()))) (sameNRes (a, (b, ()))) := by
  refine Val.ofF mixed (KL_ok (cc_nil)) (freesC rfl _) (sameNFn a b) ?_
  have hp' : a.length ≤ 1000000 := hp
  rw [ifp_ne]
  split
  · rename_i h
    refine ⟨sameNOk, ?_⟩
    repeat (first
      | (refine ⟨Nat.le_refl _, ?_⟩)
      | (rw [ifp_pos (roomy_small (by simp only [Nat.add_eq]; omega) (by decide))])
      | (refine ⟨trivial, ?_⟩)
      | (refine ⟨(rfl : true = true), ?_⟩)
      | (refine ⟨idx_ok (by omega), ?_⟩)
      | (refine ⟨idx_ok0 (by omega), ?_⟩)
      | (refine ⟨_, nth_int (by omega), ?_⟩)
      | (refine ⟨_, _, _, _, _, _, nth_lst (by omega), ?_⟩)
      | (refine ⟨_, _, _, _, _, _, nth_lst0 (by omega), ?_⟩)
      | (refine ⟨_, Wk.refl _, ?_⟩)
      | (rw [ifp_pos rfl])
      | (refine ⟨(rfl : (_ : List Nat) = _), ?_⟩)
      | (refine ⟨(rfl : (_ : Code) = _), ?_⟩))
    refine ⟨⟨0, rfl, by omega, hp', by simp at h; omega, rfl⟩, fun _ _ hr => ?_, fun c _ hr => ?_, trivial⟩
    · exact tells_bool (by rw [decide_eq_true (show a = b from hr)])
    · obtain ⟨r, _⟩ := c
      obtain ⟨rfl, hr⟩ := hr
      exact tells_bool (by rw [decide_eq_false hr])
  · rename_i h
    exact tells_bool (by rw [decide_eq_false]; intro e; subst e; exact h rfl)
theorem sameNCc : CcOk Try.prog 17 sameNK := val_ok rfl (fun ⟨a, ⟨b, _⟩⟩ h => sameNVal a b h)

def Srt (L : List Near) : Prop := L.Pairwise fun a b => lessV b a = false
theorem ins_perm (L : List Near) (n : Near) : (insV L n).Perm (n :: L) := by
  rw [insV]
  refine List.perm_middle.trans ?_
  rw [List.take_append_drop]
theorem posV_spec (L : List Near) (n : Near) : ∀ k, k ≤ L.length → (∀ i (hi : i < L.length), posV L n k ≤ i → i < k → lessV n L[i] = true) ∧ (posV L n k = 0 ∨ ∃ h : posV L n k - 1 < L.length, lessV n (L[posV L n k - 1]'h) = false)
  | 0, _ => ⟨fun i _ _ h => by omega, Or.inl rfl⟩
  | k + 1, hk => by
    have hg : L.getD k n = L[k] := by simp [show k < L.length by omega]
    have ih := posV_spec L n k (by omega)
    rw [posV]
    by_cases h : lessV n (L.getD k n) = true
    · rw [if_pos h]
      refine ⟨fun i hi h1 h2 => ?_, ih.2⟩
      by_cases e : i = k
      · subst e; rw [hg] at h; exact h
      · exact ih.1 i hi h1 (by omega)
    · rw [if_neg h]
      refine ⟨fun i hi h1 h2 => by omega, Or.inr ⟨by show k + 1 - 1 < L.length; omega, ?_⟩⟩
      rw [hg] at h
      simpa using h
theorem Srt.get {L : List Near} (h : Srt L) {i j : Nat} (hi : i < L.length) (hj : j < L.length) (hij : i ≤ j) : lessV L[j] L[i] = false := by
  rcases Nat.lt_or_ge i j with c | c
  · exact List.pairwise_iff_getElem.1 h i j hi hj c
  · obtain rfl : i = j := by omega
    exact ltLess.irr _
theorem ins_sorted {L : List Near} (h : Srt L) (n : Near) : Srt (insV L n) := by
  have hs := posV_spec L n L.length (Nat.le_refl _)
  have hp := posV_le L n L.length
  rw [insV]
  generalize posV L n L.length = p at *
  refine List.pairwise_append.2 ⟨h.sublist (List.take_sublist _ _), List.pairwise_cons.2 ⟨fun x hx => ?_, h.sublist (List.drop_sublist _ _)⟩, fun x hx y hy => ?_⟩
  · obtain ⟨j, hj, rfl⟩ := List.getElem_of_mem hx
    rw [List.length_drop] at hj
    rw [List.getElem_drop]
    exact ltLess.asym (hs.1 (p + j) (by omega) (by omega) (by omega))
  · obtain ⟨i, hi, rfl⟩ := List.getElem_of_mem hx
    rw [List.length_take] at hi
    rw [List.getElem_take]
    rcases List.mem_cons.1 hy with rfl | hy
    · rcases hs.2 with h0 | ⟨h1, h2⟩
      · omega
      · exact ltLess.le_tr (h.get (by omega) h1 (by omega)) h2
    · obtain ⟨j, hj, rfl⟩ := List.getElem_of_mem hy
      rw [List.length_drop] at hj
      rw [List.getElem_drop]
      exact h.get (by omega) (by omega) (by omega)
theorem srt_unique {a b : List Near} (ha : Srt a) (hb : Srt b) (h : a.Perm b) : a = b :=
  List.Perm.eq_of_pairwise (le := fun x y => lessV y x = false) (fun x y _ _ h1 h2 => ltLess.tot x y h2 h1) ha hb h
theorem nearSort_srt (l : List Near) : Srt (nearSort l) := by
  have tr : ∀ a b c : Near, (!lessV b a) = true → (!lessV c b) = true → (!lessV c a) = true := fun a b c h1 h2 => by
    simp only [Bool.not_eq_true'] at *
    exact ltLess.le_tr h1 h2
  have to : ∀ a b : Near, ((!lessV b a) || (!lessV a b)) = true := fun a b => by
    cases h : lessV b a with
    | false => rfl
    | true => rw [ltLess.asym h]; rfl
  exact (List.pairwise_mergeSort tr to l).imp fun h => by simpa using h
theorem nearSort_perm (l : List Near) : (nearSort l).Perm l := List.mergeSort_perm l _
theorem insAll_ok (l : List Near) : Srt (insAll l) ∧ (insAll l).Perm l := by
  have : ∀ (l a : List Near), Srt a → Srt (l.foldl insV a) ∧ (l.foldl insV a).Perm (a ++ l) := by
    intro l
    induction l with
    | nil => intro a h; exact ⟨h, by simp⟩
    | cons x l ih =>
      intro a h
      obtain ⟨h1, h2⟩ := ih (insV a x) (ins_sorted h x)
      refine ⟨h1, h2.trans ?_⟩
      exact ((ins_perm a x).append_right l).trans (List.perm_middle (l₁ := a) (l₂ := l) (a := x)).symm
  have h := this l [] List.Pairwise.nil
  exact ⟨h.1, by have h2 := h.2; rw [List.nil_append] at h2; exact h2⟩
theorem sort_ins (l : List Near) : nearSort l = insAll l := srt_unique (nearSort_srt l) (insAll_ok l).1 ((nearSort_perm l).trans (insAll_ok l).2.symm)

end Go.Proofs.Ytfcdpdejoogapaa
