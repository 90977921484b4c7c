/- Forms and contracts, printed by gx.py. -/
import Derived.Test.YtfcdpdejoogapaaRows
import Derived.Test.YtfcdpdejoogapaaDvUse
import Derived.Test.YtfcdpdejoogapaaDvArg
import Derived.ProofKit
import Derived.Test.YtfcdpdejoogapaaCell
import Derived.Test.YtfcdpdejoogapaaCellB
import Derived.Test.YtfcdpdejoogapaaSort
import Derived.Test.YtfcdpdejoogapaaDvSort
import Derived.Test.YtfcdpdejoogapaaDvHp
import Derived.Test.YtfcdpdejoogapaaRank
namespace Go.Proofs.Ytfcdpdejoogapaa
open Go.Det Go.RowKit
set_option linter.unusedVariables false
set_option linter.unusedSimpArgs false
set_option maxRecDepth 100000
theorem lives04Ran : answersTrue ((run Try.prog 1000).call 10 [] st0) = true := by kernel_rfl
noncomputable def lives04K : CallC := valC .nil (fun _ => True) (fun _ => .bool true)
theorem lives04Cc : CcOk Try.prog 10 lives04K := val_ok rfl fun _ _ st => CallS.closed_ran mixed lives04Ran st

/-! wayfinder/rank.New -/
abbrev newZ := (Int × Unit) × (Unit)
noncomputable def newT : Tel (Int × Unit) := .cons 0 (.int .i64) (.nil)
noncomputable def newBl : BTel (Unit) := .nil
noncomputable def newRes (R0 : newZ → (Unit × Int × Unit) → (Unit) → Prop) (R1 : newZ → (Unit × Int × Unit) → ((Int × Unit × Unit) × Unit) → Prop) : List (Res newZ) := [⟨Unit × Int × Unit, Unit, .cons 0 (.con (.nilPtr) rfl) (.cons 1 (.int .i64) (.nil)), .nil, R0⟩, ⟨Unit × Int × Unit, (Int × Unit × Unit) × Unit, .cons 0 (.ptr 0) (.cons 1 (.int .i64) (.nil)), .cons (.row (.cons 0 (.int .i64) (.cons 1 (.nilS) (.nil)))) (.nil), R1⟩]

theorem newFn (k : Int) (R0 : newZ → (Unit × Int × Unit) → (Unit) → Prop) (R1 : newZ → (Unit × Int × Unit) → ((Int × Unit × Unit) × Unit) → Prop) : (callW Try.prog (runW Try.prog (KL [] []) 200) 12 (newT.cells id (k, ())) (stL false (newBl.obs id ())) (fun v st => resAny 0 ((k, ()), ()) v st (newRes R0 R1))) =
  (ifp (!leInt (0 : Int) k) (AV.nilPtr = AV.nilPtr ∧ true = true ∧ R0 ((k, ()), ()) ((), (2 : Int), ()) () ∨ False)
    (ifp (!leInt k (16777216 : Int))
      (AV.nilPtr = AV.nilPtr ∧ true = true ∧ R0 ((k, ()), ()) ((), (2 : Int), ()) () ∨ False)
      (AV.ptr (0 : Nat) (0 : Nat) = AV.nilPtr ∧ true = true ∧ R0 ((k, ()), ()) ((), (0 : Int), ()) () ∨
        true = true ∧ R1 ((k, ()), ()) ((), (0 : Int), ()) ((k, (), ()), ())))) := by kernel_rfl

def newPre : newZ → Prop := fun ((k, ()), ()) => True
def newR0 : newZ → (Unit × Int × Unit) → (Unit) → Prop := fun ((k, ()), ()) (_, e, _) _ => e = 2 ∧ (k < 0 ∨ 16777216 < k)
def newR1 : newZ → (Unit × Int × Unit) → ((Int × Unit × Unit) × Unit) → Prop := fun ((k, ()), ()) (_, e, _) ((k2, _), _) => e = 0 ∧ 0 ≤ k ∧ k ≤ 16777216 ∧ k2 = k
noncomputable def newK : CallC := callC 0 newT newBl newPre (newRes newR0 newR1)

theorem newStep (z : newZ) (hp : newPre z) : callW Try.prog (runW Try.prog (KL [] []) 200) 12 (newT.cells id z.1) (stL false (newBl.obs id z.2)) (fun v st => resAny 0 z v st (newRes newR0 newR1)) := by
  obtain ⟨⟨k, _⟩, _⟩ := z
  refine (newFn k _ _).mpr ?_
  rw [ifp_lt, ifp_lt]
  split
  · rename_i h; exact Or.inl ⟨rfl, (by first | exact trivial | exact rfl), rfl, Or.inl h⟩
  · rename_i h
    split
    · rename_i h2; exact Or.inl ⟨rfl, (by first | exact trivial | exact rfl), rfl, Or.inr h2⟩
    · rename_i h2; exact Or.inr ⟨rfl, (by first | exact trivial | exact rfl), by omega, by omega, rfl⟩
theorem newCc : CcOk Try.prog 12 newK := call_ok mixed (KL_ok (cc_nil)) rfl newStep

/-! wayfinder/wayfinderref04.New -/
abbrev rnewZ := (Int × Unit) × (Unit)
noncomputable def rnewT : Tel (Int × Unit) := .cons 0 (.int .i64) (.nil)
noncomputable def rnewBl : BTel (Unit) := .nil
noncomputable def rnewRes (R0 : rnewZ → (Unit × Int × Unit) → (Unit) → Prop) (R1 : rnewZ → (Unit × Int × Unit) → ((Int × (List Near) × Unit) × Unit) → Prop) : List (Res rnewZ) := [⟨Unit × Int × Unit, Unit, .cons 0 (.con (.nilPtr) rfl) (.cons 1 (.int .i64) (.nil)), .nil, R0⟩, ⟨Unit × Int × Unit, (Int × (List Near) × Unit) × Unit, .cons 0 (.ptr 0) (.cons 1 (.int .i64) (.nil)), .cons (.row (.cons 0 (.int .i64) (.cons 1 (.lst En) (.nil)))) (.nil), R1⟩]

theorem rnewFn (k : Int) (R0 : rnewZ → (Unit × Int × Unit) → (Unit) → Prop) (R1 : rnewZ → (Unit × Int × Unit) → ((Int × (List Near) × Unit) × Unit) → Prop) : (callW Try.prog (runW Try.prog (KL [] []) 200) 19 (rnewT.cells id (k, ())) (stL false (rnewBl.obs id ())) (fun v st => resAny 0 ((k, ()), ()) v st (rnewRes R0 R1))) =
  (ifp (!leInt (0 : Int) k) (AV.nilPtr = AV.nilPtr ∧ true = true ∧ R0 ((k, ()), ()) ((), (2 : Int), ()) () ∨ False)
    (ifp (!leInt k (16777216 : Int))
      (AV.nilPtr = AV.nilPtr ∧ true = true ∧ R0 ((k, ()), ()) ((), (2 : Int), ()) () ∨ False)
      (AV.ptr (0 : Nat) (0 : Nat) = AV.nilPtr ∧ true = true ∧ R0 ((k, ()), ()) ((), (0 : Int), ()) () ∨
        ∃ (l : List Near),
          Wk AV.nilSlice (lst En l) ∧ true = true ∧ R1 ((k, ()), ()) ((), (0 : Int), ()) ((k, l, ()), ())))) := by kernel_rfl

def rnewPre : rnewZ → Prop := fun ((k, ()), ()) => True
def rnewR0 : rnewZ → (Unit × Int × Unit) → (Unit) → Prop := fun ((k, ()), ()) (_, e, _) _ => e = 2 ∧ (k < 0 ∨ 16777216 < k)
def rnewR1 : rnewZ → (Unit × Int × Unit) → ((Int × (List Near) × Unit) × Unit) → Prop := fun ((k, ()), ()) (_, e, _) ((k2, L, _), _) => e = 0 ∧ 0 ≤ k ∧ k ≤ 16777216 ∧ k2 = k ∧ L = []
noncomputable def rnewK : CallC := callC 0 rnewT rnewBl rnewPre (rnewRes rnewR0 rnewR1)

theorem rnewStep (z : rnewZ) (hp : rnewPre z) : callW Try.prog (runW Try.prog (KL [] []) 200) 19 (rnewT.cells id z.1) (stL false (rnewBl.obs id z.2)) (fun v st => resAny 0 z v st (rnewRes rnewR0 rnewR1)) := by
  obtain ⟨⟨k, _⟩, _⟩ := z
  refine (rnewFn k _ _).mpr ?_
  rw [ifp_lt, ifp_lt]
  split
  · rename_i h; exact Or.inl ⟨rfl, (by first | exact trivial | exact rfl), rfl, Or.inl h⟩
  · rename_i h
    split
    · rename_i h2; exact Or.inl ⟨rfl, (by first | exact trivial | exact rfl), rfl, Or.inr h2⟩
    · rename_i h2; exact Or.inr ⟨[], wk_nil _, (by first | exact trivial | exact rfl), (by first | exact trivial | exact rfl), by omega, by omega, rfl, rfl⟩
theorem rnewCc : CcOk Try.prog 19 rnewK := call_ok mixed (KL_ok (cc_nil)) rfl rnewStep

set_option maxHeartbeats 4000000

/-! The loop rc of wayfinder/wayfinderlaw04.RankCalls. -/
abbrev rcZ := ((List Near) × Unit × Unit × Int × Unit) × ((Int × (Nat × Nat) × Unit) × (Int × (List Near) × Unit) × (List Near) × Unit)
noncomputable def rcSl : Tel ((List Near) × Unit × Unit × Int × Unit) := .cons 0 (.lst En) (.cons 9 (.ptr 0) (.cons 11 (.ptr 1) (.cons 13 (.int .i64) (.nil))))
noncomputable def rcBl : BTel ((Int × (Nat × Nat) × Unit) × (Int × (List Near) × Unit) × (List Near) × Unit) := .cons (.row (.cons 0 (.int .i64) (.cons 1 (.slq 2 2) (.nil)))) (.cons (.row (.cons 0 (.int .i64) (.cons 1 (.lst En) (.nil)))) (.cons (.rows En 30) (.nil)))
noncomputable def rcSl0 : Tel ((List Near) × Unit × Unit × Int × Unit) := .cons 0 (.lst En) (.cons 9 (.ptr 0) (.cons 11 (.ptr 1) (.cons 13 (.int .i64) (.nil))))
noncomputable def rcBl0 : BTel ((Int × Unit × Unit) × (Int × (List Near) × Unit) × Unit) := .cons (.row (.cons 0 (.int .i64) (.cons 1 (.nilS) (.nil)))) (.cons (.row (.cons 0 (.int .i64) (.cons 1 (.lst En) (.nil)))) (.nil))
noncomputable def rcZ0 : ((List Near) × Unit × Unit × Int × Unit) → ((Int × Unit × Unit) × (Int × (List Near) × Unit) × Unit) → rcZ := fun (l, ((), ((), (i, ())))) ((k, ((), ())), ((K, (L, ())), ())) => ((l, ((), ((), (i, ())))), ((k, ((0, 0), ())), ((K, (L, ())), ([], ()))))
noncomputable def rcFs : List (LForm rcZ) := [⟨_, _, rcSl, rcBl, fun x y => (x, y)⟩, ⟨_, _, rcSl0, rcBl0, rcZ0⟩]
noncomputable def rcAlts (R0 : rcZ → (Unit) → (Unit) → Prop) (R1 : rcZ → (Unit × Unit) → (Unit) → Prop) : List (Alt rcZ) := [⟨.exit 0, Unit, Unit, .nil, .nil, R0⟩, ⟨.ret, Unit × Unit, Unit, .cons 8 (.con (.bool false) rfl) (.nil), .nil, R1⟩]

theorem rcForm (l : List Near) (i : Int) (k : Int) (h : Nat × Nat) (K : Int) (L : List Near) (m : List Near) (N : rcZ → Prop) (R0 : rcZ → (Unit) → (Unit) → Prop) (R1 : rcZ → (Unit × Unit) → (Unit) → Prop) : ((runW Try.prog (KLX [(14, addK), (23, raddK), (13, worstK), (24, rworstK), (16, tlistK), (17, sameNK)] [] [30] [] [(5, [12, 13, 14, 15, 16]), (25, [1])]) 100).code none 5 151 (loopBody Try.prog 5 10) (mkT (rcSl.av id (l, ((), ((), (i, ())))))) [] (stL false (rcBl.obs id ((k, (h, ())), ((K, (L, ())), (m, ()))))) (postL 0 rcFs (rcAlts R0 R1) ((l, ((), ((), (i, ())))), ((k, (h, ())), ((K, (L, ())), (m, ())))) N)) =
  ( ifp (!leInt (Int.ofNat l.length) i) (idxOk i l.length ∧ ∃ (x : Int), nth (((natOf i).mul (2 : Nat)).add (0 : Nat)) (List.flatMap En.f l) = some (AV.int
  IntKind.i64 x) ∧ ∃ (x_1 : Int), nth (((natOf i).mul (2 : Nat)).add (1 : Nat)) (List.flatMap En.f l) = some (AV.int IntKind.i64 x_1) ∧ ((∃ (a : Near), AV.agg
  [AV.int IntKind.i64 x, AV.int IntKind.i64 x_1] = AV.agg [AV.int IntKind.i64 a.fst, AV.int IntKind.i64 a.snd.fst] ∧ ∃ (l_1 : List Near), List.flatMap En.f m =
  List.flatMap En.f l_1 ∧ true = true ∧ add1Pre (((), a, ()), (k, (h.fst, h.snd), ()), l_1, ()) ∧ (∀ (c : Bool × Int × Unit) (d : (Int × (Nat × Nat) × Unit) ×
  List Near × Unit), add1R0 (((), a, ()), (k, (h.fst, h.snd), ()), l_1, ()) c d → idxOk i l.length ∧ ∃ (x : Int), nth (((natOf i).mul (2 : Nat)).add (0 : Nat))
  (List.flatMap En.f l) = some (AV.int IntKind.i64 x) ∧ ∃ (x_2 : Int), nth (((natOf i).mul (2 : Nat)).add (1 : Nat)) (List.flatMap En.f l) = some (AV.int
  IntKind.i64 x_2) ∧ ∃ (a : Near), AV.agg [AV.int IntKind.i64 x, AV.int IntKind.i64 x_2] = AV.agg [AV.int IntKind.i64 a.fst, AV.int IntKind.i64 a.snd.fst] ∧ ∃
  (l_2 : List Near), Wk (AV.vs (List.flatMap En.f L) L.length L.length false none (2 : Nat)) (lst En l_2) ∧ true = true ∧ raddPre (((), a, ()), (K, l_2, ()), ())
  ∧ (∀ (c_1 : Bool × Unit) (d_1 : (Int × List Near × Unit) × Unit), raddR0 (((), a, ()), (K, l_2, ()), ()) c_1 d_1 → (∃ (l_3 : List Near), List.flatMap En.f
  d.2.1 = List.flatMap En.f l_3 ∧ true = true ∧ worst1Pre (((), ()), (d.1.1, (d.1.2.1.fst, d.1.2.1.snd), ()), l_3, ()) ∧ (∀ (c_2 : Near × Bool × Unit) (d_2 :
  (Int × (Nat × Nat) × Unit) × List Near × Unit), worst1R0 (((), ()), (d.1.1, (d.1.2.1.fst, d.1.2.1.snd), ()), l_3, ()) c_2 d_2 → (2 : Nat) ≤ (2 : Nat) ∧ ∃ (l_4
  : List Near), Wk (AV.vs (List.flatMap En.f d_1.1.2.1) d_1.1.2.1.length d_1.1.2.1.length false none (2 : Nat)) (lst En l_4) ∧ true = true ∧ rworstPre (((), ()),
  (d_1.1.1, l_4, ()), ()) ∧ (∀ (c_3 : Near × Bool × Unit) (d : (Int × List Near × Unit) × Unit), rworstR0 (((), ()), (d_1.1.1, l_4, ()), ()) c_3 d → (2 : Nat) ≤
  (2 : Nat) ∧ c.1 = c_1.1 ∧ c.2.1 = (0 : Int) ∧ ∃ (x : Int), some (AV.int IntKind.i64 c_2.1.fst) = some (AV.int IntKind.i64 x) ∧ ∃ (x_3 : Int), some (AV.int
  IntKind.i64 c_2.1.snd.fst) = some (AV.int IntKind.i64 x_3) ∧ ∃ (x_4 : Int), some (AV.int IntKind.i64 c_3.1.fst) = some (AV.int IntKind.i64 x_4) ∧ ∃ (x_5 :
  Int), some (AV.int IntKind.i64 c_3.1.snd.fst) = some (AV.int IntKind.i64 x_5) ∧ (x = x_4 ∧ x_3 = x_5 ∧ True) ∧ c_2.2.1 = c_3.2.1 ∧ True ∧ True ∧ True ∧ eqInt
  (Int.ofNat d_2.1.2.1.fst) d_2.1.1 = eqInt (Int.ofNat d.1.2.1.length) d.1.1 ∧ Int.ofNat d_2.1.2.1.fst = Int.ofNat d.1.2.1.length ∧ ((∃ (l_5 : List Near),
  List.flatMap En.f d_2.2.1 = List.flatMap En.f l_5 ∧ true = true ∧ list1Pre (((), ()), (d_2.1.1, (d_2.1.2.1.fst, d_2.1.2.1.snd), ()), l_5, ()) ∧ (∀ (c : List
  Near × Unit) (d_3 : (Int × (Nat × Nat) × Unit) × List Near × Unit), list1R0 (((), ()), (d_2.1.1, (d_2.1.2.1.fst, d_2.1.2.1.snd), ()), l_5, ()) c d_3 → ∃ (l_6 :
  List Near), Wk (AV.vs (List.flatMap En.f c.1) c.1.length c.1.length false none (2 : Nat)) (lst En l_6) ∧ ∃ (l_7 : List Near), Wk (AV.vs (List.flatMap En.f
  d.1.2.1) d.1.2.1.length d.1.2.1.length false none (2 : Nat)) (lst En l_7) ∧ sameNPre (l_6, l_7, ()) ∧ True ∧ True ∧ (AV.vs (List.flatMap En.f d.1.2.1)
  d.1.2.1.length d.1.2.1.length false none (2 : Nat) = AV.vs (List.flatMap En.f d.1.2.1) d.1.2.1.length d.1.2.1.length false none (2 : Nat) ∧ True) ∧ (AV.int
  IntKind.i64 (Int.ofNat d.1.2.1.length) = AV.int IntKind.i64 (Int.ofNat d.1.2.1.length) ∧ True) ∧ (AV.int IntKind.i64 d.1.1 = AV.int IntKind.i64 d.1.1 ∧ True) ∧
  (AV.vs (List.flatMap En.f d.1.2.1) d.1.2.1.length d.1.2.1.length false none (2 : Nat) = AV.vs (List.flatMap En.f d.1.2.1) d.1.2.1.length d.1.2.1.length false
  none (2 : Nat) ∧ True) ∧ (AV.int IntKind.i64 (Int.ofNat d.1.2.1.length) = AV.int IntKind.i64 (Int.ofNat d.1.2.1.length) ∧ True) ∧ (AV.vs (List.flatMap En.f
  d.1.2.1) d.1.2.1.length d.1.2.1.length false none (2 : Nat) = AV.vs (List.flatMap En.f d.1.2.1) d.1.2.1.length d.1.2.1.length false none (2 : Nat) ∧ True) ∧
  ifp (!decide (l_6 = l_7)) (True ∧ AV.bool false = AV.bool false ∧ true = true ∧ R1 ((l, (), (), i, ()), (k, h, ()), (K, L, ()), m, ()) ((), ()) ()) (True ∧ ((∃
  (l_8 : List Near), Wk (AV.vs (List.flatMap En.f l) l.length l.length false none (2 : Nat)) (lst En l_8) ∧ ∃ (l : List Near), Wk (AV.vs (List.flatMap En.f
  d.1.2.1) d.1.2.1.length d.1.2.1.length false none (2 : Nat)) (lst En l) ∧ ∃ (l_9 : List Near), List.flatMap En.f d_3.2.1 = List.flatMap En.f l_9 ∧ true = true
  ∧ N ((l_8, (), (), wrapF IntKind.i64 (i.add (1 : Int)), ()), (d_3.1.1, (d_3.1.2.1.fst, d_3.1.2.1.snd), ()), (d.1.1, l, ()), l_9, ())) ∨ ∃ (l_8 : List Near), Wk
  (AV.vs (List.flatMap En.f l) l.length l.length false none (2 : Nat)) (lst En l_8) ∧ False))) ∧ True) ∨ False)) ∧ True) ∧ True) ∨ False) ∧ True) ∧ True) ∨ ∃ (a
  : Near), AV.agg [AV.int IntKind.i64 x, AV.int IntKind.i64 x_1] = AV.agg [AV.int IntKind.i64 a.fst, AV.int IntKind.i64 a.snd.fst] ∧ False)) (True ∧ true = true
  ∧ R0 ((l, (), (), i, ()), (k, h, ()), (K, L, ()), m, ()) () ())) := by kernel_rfl

theorem rcForm0 (l : List Near) (i : Int) (k : Int) (K : Int) (L : List Near) (N : rcZ → Prop) (R0 : rcZ → (Unit) → (Unit) → Prop) (R1 : rcZ → (Unit × Unit) → (Unit) → Prop) : ((runW Try.prog (KLX [(14, addK), (23, raddK), (13, worstK), (24, rworstK), (16, tlistK), (17, sameNK)] [] [30] [] [(5, [12, 13, 14, 15, 16]), (25, [1])]) 100).code none 5 151 (loopBody Try.prog 5 10) (mkT (rcSl0.av id (l, ((), ((), (i, ())))))) [] (stL false (rcBl0.obs id ((k, ((), ())), ((K, (L, ())), ())))) (postL 0 rcFs (rcAlts R0 R1) (rcZ0 (l, ((), ((), (i, ())))) ((k, ((), ())), ((K, (L, ())), ()))) N)) =
  ( ifp (!leInt (Int.ofNat l.length) i) (idxOk i l.length ∧ ∃ (x : Int), nth (((natOf i).mul (2 : Nat)).add (0 : Nat)) (List.flatMap En.f l) = some (AV.int
  IntKind.i64 x) ∧ ∃ (x_1 : Int), nth (((natOf i).mul (2 : Nat)).add (1 : Nat)) (List.flatMap En.f l) = some (AV.int IntKind.i64 x_1) ∧ ((∃ (a : Near), AV.agg
  [AV.int IntKind.i64 x, AV.int IntKind.i64 x_1] = AV.agg [AV.int IntKind.i64 a.fst, AV.int IntKind.i64 a.snd.fst] ∧ False) ∨ ∃ (a : Near), AV.agg [AV.int
  IntKind.i64 x, AV.int IntKind.i64 x_1] = AV.agg [AV.int IntKind.i64 a.fst, AV.int IntKind.i64 a.snd.fst] ∧ true = true ∧ add0Pre (((), a, ()), (k, (), ()), ())
  ∧ (∀ (c : Bool × Int × Unit) (d : (Int × Unit × Unit) × Unit), add0R0 (((), a, ()), (k, (), ()), ()) c d → idxOk i l.length ∧ ∃ (x : Int), nth (((natOf i).mul
  (2 : Nat)).add (0 : Nat)) (List.flatMap En.f l) = some (AV.int IntKind.i64 x) ∧ ∃ (x_2 : Int), nth (((natOf i).mul (2 : Nat)).add (1 : Nat)) (List.flatMap En.f
  l) = some (AV.int IntKind.i64 x_2) ∧ ∃ (a : Near), AV.agg [AV.int IntKind.i64 x, AV.int IntKind.i64 x_2] = AV.agg [AV.int IntKind.i64 a.fst, AV.int IntKind.i64
  a.snd.fst] ∧ ∃ (l_1 : List Near), Wk (AV.vs (List.flatMap En.f L) L.length L.length false none (2 : Nat)) (lst En l_1) ∧ true = true ∧ raddPre (((), a, ()),
  (K, l_1, ()), ()) ∧ (∀ (c_1 : Bool × Unit) (d_1 : (Int × List Near × Unit) × Unit), raddR0 (((), a, ()), (K, l_1, ()), ()) c_1 d_1 → False ∨ true = true ∧
  worst0Pre (((), ()), (d.1.1, (), ()), ()) ∧ (∀ (c_2 : Near × Bool × Unit) (d_2 : (Int × Unit × Unit) × Unit), worst0R0 (((), ()), (d.1.1, (), ()), ()) c_2 d_2
  → (2 : Nat) ≤ (2 : Nat) ∧ ∃ (l_2 : List Near), Wk (AV.vs (List.flatMap En.f d_1.1.2.1) d_1.1.2.1.length d_1.1.2.1.length false none (2 : Nat)) (lst En l_2) ∧
  true = true ∧ rworstPre (((), ()), (d_1.1.1, l_2, ()), ()) ∧ (∀ (c_3 : Near × Bool × Unit) (d : (Int × List Near × Unit) × Unit), rworstR0 (((), ()), (d_1.1.1,
  l_2, ()), ()) c_3 d → (2 : Nat) ≤ (2 : Nat) ∧ c.1 = c_1.1 ∧ c.2.1 = (0 : Int) ∧ ∃ (x : Int), some (AV.int IntKind.i64 c_2.1.fst) = some (AV.int IntKind.i64 x)
  ∧ ∃ (x_3 : Int), some (AV.int IntKind.i64 c_2.1.snd.fst) = some (AV.int IntKind.i64 x_3) ∧ ∃ (x_4 : Int), some (AV.int IntKind.i64 c_3.1.fst) = some (AV.int
  IntKind.i64 x_4) ∧ ∃ (x_5 : Int), some (AV.int IntKind.i64 c_3.1.snd.fst) = some (AV.int IntKind.i64 x_5) ∧ (x = x_4 ∧ x_3 = x_5 ∧ True) ∧ c_2.2.1 = c_3.2.1 ∧
  True ∧ True ∧ True ∧ eqInt (0 : Int) d_2.1.1 = eqInt (Int.ofNat d.1.2.1.length) d.1.1 ∧ (0 : Int) = Int.ofNat d.1.2.1.length ∧ (False ∨ true = true ∧ list0Pre
  (((), ()), (d_2.1.1, (), ()), ()) ∧ (∀ (c : List Near × Unit) (d_3 : (Int × Unit × Unit) × Unit), list0R0 (((), ()), (d_2.1.1, (), ()), ()) c d_3 → ∃ (l_3 :
  List Near), Wk (AV.vs (List.flatMap En.f c.1) c.1.length c.1.length false none (2 : Nat)) (lst En l_3) ∧ ∃ (l_4 : List Near), Wk (AV.vs (List.flatMap En.f
  d.1.2.1) d.1.2.1.length d.1.2.1.length false none (2 : Nat)) (lst En l_4) ∧ sameNPre (l_3, l_4, ()) ∧ True ∧ True ∧ (AV.vs (List.flatMap En.f d.1.2.1)
  d.1.2.1.length d.1.2.1.length false none (2 : Nat) = AV.vs (List.flatMap En.f d.1.2.1) d.1.2.1.length d.1.2.1.length false none (2 : Nat) ∧ True) ∧ (AV.int
  IntKind.i64 (Int.ofNat d.1.2.1.length) = AV.int IntKind.i64 (Int.ofNat d.1.2.1.length) ∧ True) ∧ (AV.int IntKind.i64 d.1.1 = AV.int IntKind.i64 d.1.1 ∧ True) ∧
  (AV.vs (List.flatMap En.f d.1.2.1) d.1.2.1.length d.1.2.1.length false none (2 : Nat) = AV.vs (List.flatMap En.f d.1.2.1) d.1.2.1.length d.1.2.1.length false
  none (2 : Nat) ∧ True) ∧ (AV.int IntKind.i64 (Int.ofNat d.1.2.1.length) = AV.int IntKind.i64 (Int.ofNat d.1.2.1.length) ∧ True) ∧ (AV.vs (List.flatMap En.f
  d.1.2.1) d.1.2.1.length d.1.2.1.length false none (2 : Nat) = AV.vs (List.flatMap En.f d.1.2.1) d.1.2.1.length d.1.2.1.length false none (2 : Nat) ∧ True) ∧
  ifp (!decide (l_3 = l_4)) (True ∧ AV.bool false = AV.bool false ∧ true = true ∧ R1 ((l, (), (), i, ()), (k, ((0 : Nat), (0 : Nat)), ()), (K, L, ()), [], ())
  ((), ()) ()) (True ∧ ((∃ (l_5 : List Near), Wk (AV.vs (List.flatMap En.f l) l.length l.length false none (2 : Nat)) (lst En l_5) ∧ False) ∨ ∃ (l_5 : List
  Near), Wk (AV.vs (List.flatMap En.f l) l.length l.length false none (2 : Nat)) (lst En l_5) ∧ ∃ (l : List Near), Wk (AV.vs (List.flatMap En.f d.1.2.1)
  d.1.2.1.length d.1.2.1.length false none (2 : Nat)) (lst En l) ∧ true = true ∧ N ((l_5, (), (), wrapF IntKind.i64 (i.add (1 : Int)), ()), (d_3.1.1, ((0 : Nat),
  (0 : Nat)), ()), (d.1.1, l, ()), [], ())))) ∧ True)) ∧ True) ∧ True) ∧ True) ∧ (∀ (c : Bool × Int × Unit) (d : (Int × (Nat × Nat) × Unit) × List Near × Unit),
  add0R1 (((), a, ()), (k, (), ()), ()) c d → idxOk i l.length ∧ ∃ (x : Int), nth (((natOf i).mul (2 : Nat)).add (0 : Nat)) (List.flatMap En.f l) = some (AV.int
  IntKind.i64 x) ∧ ∃ (x_2 : Int), nth (((natOf i).mul (2 : Nat)).add (1 : Nat)) (List.flatMap En.f l) = some (AV.int IntKind.i64 x_2) ∧ ∃ (a : Near), AV.agg
  [AV.int IntKind.i64 x, AV.int IntKind.i64 x_2] = AV.agg [AV.int IntKind.i64 a.fst, AV.int IntKind.i64 a.snd.fst] ∧ ∃ (l_1 : List Near), Wk (AV.vs (List.flatMap
  En.f L) L.length L.length false none (2 : Nat)) (lst En l_1) ∧ true = true ∧ raddPre (((), a, ()), (K, l_1, ()), ()) ∧ (∀ (c_1 : Bool × Unit) (d_1 : (Int ×
  List Near × Unit) × Unit), raddR0 (((), a, ()), (K, l_1, ()), ()) c_1 d_1 → (∃ (l_2 : List Near), List.flatMap En.f d.2.1 = List.flatMap En.f l_2 ∧ true = true
  ∧ worst1Pre (((), ()), (d.1.1, (d.1.2.1.fst, d.1.2.1.snd), ()), l_2, ()) ∧ (∀ (c_2 : Near × Bool × Unit) (d_2 : (Int × (Nat × Nat) × Unit) × List Near × Unit),
  worst1R0 (((), ()), (d.1.1, (d.1.2.1.fst, d.1.2.1.snd), ()), l_2, ()) c_2 d_2 → (2 : Nat) ≤ (2 : Nat) ∧ ∃ (l_3 : List Near), Wk (AV.vs (List.flatMap En.f
  d_1.1.2.1) d_1.1.2.1.length d_1.1.2.1.length false none (2 : Nat)) (lst En l_3) ∧ true = true ∧ rworstPre (((), ()), (d_1.1.1, l_3, ()), ()) ∧ (∀ (c_3 : Near ×
  Bool × Unit) (d : (Int × List Near × Unit) × Unit), rworstR0 (((), ()), (d_1.1.1, l_3, ()), ()) c_3 d → (2 : Nat) ≤ (2 : Nat) ∧ c.1 = c_1.1 ∧ c.2.1 = (0 : Int)
  ∧ ∃ (x : Int), some (AV.int IntKind.i64 c_2.1.fst) = some (AV.int IntKind.i64 x) ∧ ∃ (x_3 : Int), some (AV.int IntKind.i64 c_2.1.snd.fst) = some (AV.int
  IntKind.i64 x_3) ∧ ∃ (x_4 : Int), some (AV.int IntKind.i64 c_3.1.fst) = some (AV.int IntKind.i64 x_4) ∧ ∃ (x_5 : Int), some (AV.int IntKind.i64 c_3.1.snd.fst)
  = some (AV.int IntKind.i64 x_5) ∧ (x = x_4 ∧ x_3 = x_5 ∧ True) ∧ c_2.2.1 = c_3.2.1 ∧ True ∧ True ∧ True ∧ eqInt (Int.ofNat d_2.1.2.1.fst) d_2.1.1 = eqInt
  (Int.ofNat d.1.2.1.length) d.1.1 ∧ Int.ofNat d_2.1.2.1.fst = Int.ofNat d.1.2.1.length ∧ ((∃ (l_4 : List Near), List.flatMap En.f d_2.2.1 = List.flatMap En.f
  l_4 ∧ true = true ∧ list1Pre (((), ()), (d_2.1.1, (d_2.1.2.1.fst, d_2.1.2.1.snd), ()), l_4, ()) ∧ (∀ (c : List Near × Unit) (d_3 : (Int × (Nat × Nat) × Unit) ×
  List Near × Unit), list1R0 (((), ()), (d_2.1.1, (d_2.1.2.1.fst, d_2.1.2.1.snd), ()), l_4, ()) c d_3 → ∃ (l_5 : List Near), Wk (AV.vs (List.flatMap En.f c.1)
  c.1.length c.1.length false none (2 : Nat)) (lst En l_5) ∧ ∃ (l_6 : List Near), Wk (AV.vs (List.flatMap En.f d.1.2.1) d.1.2.1.length d.1.2.1.length false none
  (2 : Nat)) (lst En l_6) ∧ sameNPre (l_5, l_6, ()) ∧ True ∧ True ∧ (AV.vs (List.flatMap En.f d.1.2.1) d.1.2.1.length d.1.2.1.length false none (2 : Nat) = AV.vs
  (List.flatMap En.f d.1.2.1) d.1.2.1.length d.1.2.1.length false none (2 : Nat) ∧ True) ∧ (AV.int IntKind.i64 (Int.ofNat d.1.2.1.length) = AV.int IntKind.i64
  (Int.ofNat d.1.2.1.length) ∧ True) ∧ (AV.int IntKind.i64 d.1.1 = AV.int IntKind.i64 d.1.1 ∧ True) ∧ (AV.vs (List.flatMap En.f d.1.2.1) d.1.2.1.length
  d.1.2.1.length false none (2 : Nat) = AV.vs (List.flatMap En.f d.1.2.1) d.1.2.1.length d.1.2.1.length false none (2 : Nat) ∧ True) ∧ (AV.int IntKind.i64
  (Int.ofNat d.1.2.1.length) = AV.int IntKind.i64 (Int.ofNat d.1.2.1.length) ∧ True) ∧ (AV.vs (List.flatMap En.f d.1.2.1) d.1.2.1.length d.1.2.1.length false
  none (2 : Nat) = AV.vs (List.flatMap En.f d.1.2.1) d.1.2.1.length d.1.2.1.length false none (2 : Nat) ∧ True) ∧ ifp (!decide (l_5 = l_6)) (True ∧ AV.bool false
  = AV.bool false ∧ true = true ∧ R1 ((l, (), (), i, ()), (k, ((0 : Nat), (0 : Nat)), ()), (K, L, ()), [], ()) ((), ()) ()) (True ∧ ((∃ (l_7 : List Near), Wk
  (AV.vs (List.flatMap En.f l) l.length l.length false none (2 : Nat)) (lst En l_7) ∧ ∃ (l : List Near), Wk (AV.vs (List.flatMap En.f d.1.2.1) d.1.2.1.length
  d.1.2.1.length false none (2 : Nat)) (lst En l) ∧ ∃ (l_8 : List Near), List.flatMap En.f d_3.2.1 = List.flatMap En.f l_8 ∧ true = true ∧ N ((l_7, (), (), wrapF
  IntKind.i64 (i.add (1 : Int)), ()), (d_3.1.1, (d_3.1.2.1.fst, d_3.1.2.1.snd), ()), (d.1.1, l, ()), l_8, ())) ∨ ∃ (l_7 : List Near), Wk (AV.vs (List.flatMap
  En.f l) l.length l.length false none (2 : Nat)) (lst En l_7) ∧ False))) ∧ True) ∨ False)) ∧ True) ∧ True) ∨ False) ∧ True) ∧ True)) (True ∧ true = true ∧ R0
  ((l, (), (), i, ()), (k, ((0 : Nat), (0 : Nat)), ()), (K, L, ()), [], ()) () ())) := by kernel_rfl

def rcInv : rcZ → Prop := fun ((l, ((), ((), (i, ())))), ((k, (h, ())), ((K, (L, ())), (m, ())))) => ∃ q : Nat, i = q ∧ q ≤ l.length ∧ l.length ≤ 150 ∧ K = k ∧ 0 ≤ k ∧ h = (m.length, m.length) ∧ TopOk k m L ∧ (m.length ≤ q)
def rcMu : rcZ → Nat := fun ((l, ((), ((), (i, ())))), ((k, (h, ())), ((K, (L, ())), (m, ())))) => l.length - i.toNat
def rcR0 : rcZ → (Unit) → (Unit) → Prop := fun ((l, ((), ((), (i, ())))), ((k, (h, ())), ((K, (L, ())), (m, ())))) _ _ => True
def rcR1 : rcZ → (Unit × Unit) → (Unit) → Prop := fun ((l, ((), ((), (i, ())))), ((k, (h, ())), ((K, (L, ())), (m, ())))) _ _ => False
noncomputable def rcC : LoopC := loopC 0 rcFs (rcAlts rcR0 rcR1) rcInv

theorem rcStep : stepsOk Try.prog (KLX [(14, addK), (23, raddK), (13, worstK), (24, rworstK), (16, tlistK), (17, sameNK)] [] [30] [] [(5, [12, 13, 14, 15, 16]), (25, [1])]) 100 5 151 (loopBody Try.prog 5 10) 0 false rcFs (rcAlts rcR0 rcR1) rcInv rcMu ⟨_, _, rcSl, rcBl, fun x y => (x, y)⟩ := by
  intro x y hz
  obtain ⟨l, _, _, i, _⟩ := x
  obtain ⟨⟨k, h, _⟩, ⟨K, L, _⟩, m, _⟩ := y
  refine (rcForm l i k h K L m _ _ _).mpr ?_
  obtain ⟨q, rfl, hq, hl, hKk, k0, rfl, hT, hmq⟩ := hz
  obtain rfl : k = K := hKk.symm
  rw [ifp_lt]
  simp only [natOf_nat]
  split
  · rename_i h
    have hql : q < l.length := by simpa using h
    have hLl := hT.len
    refine ⟨idx_ok hql, _, nth_near0 hql, _, nth_near1 hql, Or.inl ⟨l[q], rfl, m, rfl, (by first | exact trivial | exact rfl), ⟨rfl, hT.h, by omega, k0⟩, fun c d hr => ?_, trivial⟩⟩
    obtain ⟨b, e, _⟩ := c
    obtain ⟨⟨k2, h2, _⟩, m2, _⟩ := d
    obtain ⟨he, hk2, hh2, ha⟩ := hr
    obtain rfl : e = 0 := he
    obtain rfl : k = k2 := hk2.symm
    obtain rfl : h2 = (m2.length, m2.length) := hh2
    obtain ⟨hb, hT2⟩ := hT.add k0 ha
    have hlen2 := hT2.len
    have hm2 : m2.length ≤ q + 1 := by
      unfold addOk at ha
      split at ha
      · have := ha.2.1.length_eq; simp at this; omega
      · split at ha
        · rw [ha.2]; omega
        · have := ha.2.1.length_eq; simp at this; omega
    refine ⟨idx_ok hql, _, nth_near0 hql, _, nth_near1 hql, l[q], rfl, L, Wk.refl _, (by first | exact trivial | exact rfl), ⟨k0, hT.l, by omega⟩, fun c1 d1 hr1 => ?_, trivial⟩
    obtain ⟨b1, _⟩ := c1
    obtain ⟨⟨K1, L1, _⟩, _⟩ := d1
    obtain ⟨hb1, hK1, hL1⟩ := hr1
    obtain rfl : k = K1 := hK1.symm
    obtain rfl : L1 = raddL k L l[q] := hL1
    obtain rfl : b = b1 := hb.trans hb1.symm
    refine Or.inl ⟨m2, rfl, (by first | exact trivial | exact rfl), rfl, fun c2 d2 hr2 => ?_, trivial⟩
    obtain ⟨x2, b2, _⟩ := c2
    obtain ⟨⟨k3, h3, _⟩, m3, _⟩ := d2
    obtain ⟨hw2, hk3, hh3, hm3⟩ := hr2
    obtain rfl : k = k3 := hk3.symm
    obtain rfl : h3 = (m2.length, m2.length) := hh3
    obtain rfl : m2 = m3 := hm3.symm
    refine ⟨by decide, raddL k L l[q], Wk.refl _, (by first | exact trivial | exact rfl), ⟨k0, hT2.l, by show (raddL k L l[q]).length ≤ 1000000; omega⟩, fun c3 d3 hr3 => ?_, trivial⟩
    obtain ⟨x3, b3, _⟩ := c3
    obtain ⟨⟨K4, L4, _⟩, _⟩ := d3
    obtain ⟨hw3, hK4, hL4⟩ := hr3
    obtain rfl : k = K4 := hK4.symm
    obtain rfl : L4 = raddL k L l[q] := hL4
    have hx := hw2.trans (hT2.worst.trans hw3.symm)
    obtain rfl : x2 = x3 := congrArg Prod.fst hx
    obtain rfl : b2 = b3 := congrArg Prod.snd hx
    have hle : (Int.ofNat m2.length) = Int.ofNat (raddL k L l[q]).length := by rw [hlen2]
    refine ⟨by decide, (by first | exact trivial | exact rfl), (by first | exact trivial | exact rfl), _, rfl, _, rfl, _, rfl, _, rfl, ⟨(by first | exact trivial | exact rfl), (by first | exact trivial | exact rfl), trivial⟩, (by first | exact trivial | exact rfl), trivial, trivial, trivial, congrArg (fun z => eqInt z k) hle, hle, ?_⟩
    refine Or.inl ⟨m2, rfl, (by first | exact trivial | exact rfl), ⟨rfl, by omega⟩, fun c d hr => ?_, trivial⟩
    obtain ⟨o, _⟩ := c
    obtain ⟨⟨k5, h5, _⟩, m5, _⟩ := d
    obtain ⟨ho, hk5, hh5, hm5⟩ := hr
    obtain rfl : k = k5 := hk5.symm
    obtain rfl : h5 = (m2.length, m2.length) := hh5
    obtain rfl : m2 = m5 := hm5.symm
    obtain rfl : o = raddL k L l[q] := ho.trans hT2.list
    refine ⟨raddL k L l[q], Wk.refl _, raddL k L l[q], Wk.refl _, by show (raddL k L l[q]).length ≤ 1000000; omega, trivial, trivial, ⟨(by first | exact trivial | exact rfl), trivial⟩, ⟨(by first | exact trivial | exact rfl), trivial⟩, ⟨(by first | exact trivial | exact rfl), trivial⟩, ⟨(by first | exact trivial | exact rfl), trivial⟩, ⟨(by first | exact trivial | exact rfl), trivial⟩, ⟨(by first | exact trivial | exact rfl), trivial⟩, ?_⟩
    rw [ifp_neg (by simp)]
    refine ⟨trivial, Or.inl ⟨l, Wk.refl _, raddL k L l[q], Wk.refl _, m2, rfl, (by first | exact trivial | exact rfl), ?_⟩⟩
    rw [wsucc (by omega)]
    exact ⟨⟨q + 1, rfl, hql, hl, rfl, k0, rfl, hT2, hm2⟩, by show l.length - (q + 1) < l.length - q; omega, fun _ _ h => h, fun _ _ h => h, trivial⟩
  · exact ⟨trivial, (by first | exact trivial | exact rfl), trivial⟩
theorem rcStep0 : stepsOk Try.prog (KLX [(14, addK), (23, raddK), (13, worstK), (24, rworstK), (16, tlistK), (17, sameNK)] [] [30] [] [(5, [12, 13, 14, 15, 16]), (25, [1])]) 100 5 151 (loopBody Try.prog 5 10) 0 false rcFs (rcAlts rcR0 rcR1) rcInv rcMu ⟨_, _, rcSl0, rcBl0, rcZ0⟩ := by
  intro x y hz
  obtain ⟨l, _, _, i, _⟩ := x
  obtain ⟨⟨k, _, _⟩, ⟨K, L, _⟩, _⟩ := y
  refine (rcForm0 l i k K L _ _ _).mpr ?_
  obtain ⟨q, rfl, hq, hl, hKk, k0, _, hT, hmq⟩ := hz
  obtain rfl : k = K := hKk.symm
  rw [ifp_lt]
  simp only [natOf_nat]
  split
  · rename_i h
    have hql : q < l.length := by simpa using h
    have hLl := hT.len
    refine ⟨idx_ok hql, _, nth_near0 hql, _, nth_near1 hql, Or.inr ⟨l[q], rfl, (by first | exact trivial | exact rfl), k0, fun c d hr => ?_, fun c d hr => ?_, trivial⟩⟩
    · obtain ⟨b, e, _⟩ := c
      obtain ⟨⟨k2, _⟩, _⟩ := d
      obtain ⟨hb0, he, hk2, hkz⟩ := hr
      obtain rfl : e = 0 := he
      obtain rfl : k = k2 := hk2.symm
      have hkz' : k = 0 := hkz
      obtain ⟨hb, hT2⟩ := hT.add (n := l[q]) (b := b) (m2 := []) k0 (by rw [addOk, if_neg (by simp; omega), if_pos (Or.inl hkz')]; exact ⟨hb0, rfl⟩)
      have hlen2 := hT2.len
      have hm2 : ([] : List Near).length ≤ q + 1 := Nat.zero_le _
      refine ⟨idx_ok hql, _, nth_near0 hql, _, nth_near1 hql, l[q], rfl, L, Wk.refl _, (by first | exact trivial | exact rfl), ⟨k0, hT.l, by omega⟩, fun c1 d1 hr1 => ?_, trivial⟩
      obtain ⟨b1, _⟩ := c1
      obtain ⟨⟨K1, L1, _⟩, _⟩ := d1
      obtain ⟨hb1, hK1, hL1⟩ := hr1
      obtain rfl : k = K1 := hK1.symm
      obtain rfl : L1 = raddL k L l[q] := hL1
      obtain rfl : b = b1 := hb.trans hb1.symm
      refine Or.inr ⟨(by first | exact trivial | exact rfl), trivial, fun c2 d2 hr2 => ?_, trivial⟩
      obtain ⟨x2, b2, _⟩ := c2
      obtain ⟨⟨k3, _⟩, _⟩ := d2
      obtain ⟨hw2, hk3⟩ := hr2
      obtain rfl : k = k3 := hk3.symm
      refine ⟨by decide, raddL k L l[q], Wk.refl _, (by first | exact trivial | exact rfl), ⟨k0, hT2.l, by show (raddL k L l[q]).length ≤ 1000000; omega⟩, fun c3 d3 hr3 => ?_, trivial⟩
      obtain ⟨x3, b3, _⟩ := c3
      obtain ⟨⟨K4, L4, _⟩, _⟩ := d3
      obtain ⟨hw3, hK4, hL4⟩ := hr3
      obtain rfl : k = K4 := hK4.symm
      obtain rfl : L4 = raddL k L l[q] := hL4
      have hx := hw2.trans (hT2.worst.trans hw3.symm)
      obtain rfl : x2 = x3 := congrArg Prod.fst hx
      obtain rfl : b2 = b3 := congrArg Prod.snd hx
      have hle : (Int.ofNat ([] : List Near).length) = Int.ofNat (raddL k L l[q]).length := by rw [hlen2]
      refine ⟨by decide, (by first | exact trivial | exact rfl), (by first | exact trivial | exact rfl), _, rfl, _, rfl, _, rfl, _, rfl, ⟨(by first | exact trivial | exact rfl), (by first | exact trivial | exact rfl), trivial⟩, (by first | exact trivial | exact rfl), trivial, trivial, trivial, congrArg (fun z => eqInt z k) hle, hle, ?_⟩
      refine Or.inr ⟨(by first | exact trivial | exact rfl), trivial, fun c d hr => ?_, trivial⟩
      obtain ⟨o, _⟩ := c
      obtain ⟨⟨k5, _⟩, _⟩ := d
      obtain ⟨ho, hk5⟩ := hr
      obtain rfl : k = k5 := hk5.symm
      obtain rfl : o = raddL k L l[q] := ho.trans ((by simp [nearSort] : ([] : List Near) = nearSort []).trans hT2.list)
      refine ⟨raddL k L l[q], Wk.refl _, raddL k L l[q], Wk.refl _, by show (raddL k L l[q]).length ≤ 1000000; omega, trivial, trivial, ⟨(by first | exact trivial | exact rfl), trivial⟩, ⟨(by first | exact trivial | exact rfl), trivial⟩, ⟨(by first | exact trivial | exact rfl), trivial⟩, ⟨(by first | exact trivial | exact rfl), trivial⟩, ⟨(by first | exact trivial | exact rfl), trivial⟩, ⟨(by first | exact trivial | exact rfl), trivial⟩, ?_⟩
      rw [ifp_neg (by simp)]
      refine ⟨trivial, Or.inr ⟨l, Wk.refl _, raddL k L l[q], Wk.refl _, (by first | exact trivial | exact rfl), ?_⟩⟩
      rw [wsucc (by omega)]
      exact ⟨⟨q + 1, rfl, hql, hl, rfl, k0, rfl, hT2, hm2⟩, by show l.length - (q + 1) < l.length - q; omega, fun _ _ h => h, fun _ _ h => h, trivial⟩
    · obtain ⟨b, e, _⟩ := c
      obtain ⟨⟨k2, h2, _⟩, m2, _⟩ := d
      obtain ⟨hb0, he, hk2, hkz, hh2, hmm⟩ := hr
      obtain rfl : e = 0 := he
      obtain rfl : k = k2 := hk2.symm
      have hmm' : m2 = [l[q]] := hmm
      have hkz' : 0 < k := hkz
      obtain rfl : h2 = (m2.length, m2.length) := by rw [hmm']; exact hh2
      obtain ⟨hb, hT2⟩ := hT.add (n := l[q]) (b := b) (m2 := m2) k0 (by rw [addOk, if_pos (by simp; omega), hmm']; exact ⟨hb0, List.Perm.refl _, fun j hj h0 => by simp at hj; omega⟩)
      have hlen2 := hT2.len
      have hm2 : m2.length ≤ q + 1 := by rw [hmm']; simp
      refine ⟨idx_ok hql, _, nth_near0 hql, _, nth_near1 hql, l[q], rfl, L, Wk.refl _, (by first | exact trivial | exact rfl), ⟨k0, hT.l, by omega⟩, fun c1 d1 hr1 => ?_, trivial⟩
      obtain ⟨b1, _⟩ := c1
      obtain ⟨⟨K1, L1, _⟩, _⟩ := d1
      obtain ⟨hb1, hK1, hL1⟩ := hr1
      obtain rfl : k = K1 := hK1.symm
      obtain rfl : L1 = raddL k L l[q] := hL1
      obtain rfl : b = b1 := hb.trans hb1.symm
      refine Or.inl ⟨m2, rfl, (by first | exact trivial | exact rfl), rfl, fun c2 d2 hr2 => ?_, trivial⟩
      obtain ⟨x2, b2, _⟩ := c2
      obtain ⟨⟨k3, h3, _⟩, m3, _⟩ := d2
      obtain ⟨hw2, hk3, hh3, hm3⟩ := hr2
      obtain rfl : k = k3 := hk3.symm
      obtain rfl : h3 = (m2.length, m2.length) := hh3
      obtain rfl : m2 = m3 := hm3.symm
      refine ⟨by decide, raddL k L l[q], Wk.refl _, (by first | exact trivial | exact rfl), ⟨k0, hT2.l, by show (raddL k L l[q]).length ≤ 1000000; omega⟩, fun c3 d3 hr3 => ?_, trivial⟩
      obtain ⟨x3, b3, _⟩ := c3
      obtain ⟨⟨K4, L4, _⟩, _⟩ := d3
      obtain ⟨hw3, hK4, hL4⟩ := hr3
      obtain rfl : k = K4 := hK4.symm
      obtain rfl : L4 = raddL k L l[q] := hL4
      have hx := hw2.trans (hT2.worst.trans hw3.symm)
      obtain rfl : x2 = x3 := congrArg Prod.fst hx
      obtain rfl : b2 = b3 := congrArg Prod.snd hx
      have hle : (Int.ofNat m2.length) = Int.ofNat (raddL k L l[q]).length := by rw [hlen2]
      refine ⟨by decide, (by first | exact trivial | exact rfl), (by first | exact trivial | exact rfl), _, rfl, _, rfl, _, rfl, _, rfl, ⟨(by first | exact trivial | exact rfl), (by first | exact trivial | exact rfl), trivial⟩, (by first | exact trivial | exact rfl), trivial, trivial, trivial, congrArg (fun z => eqInt z k) hle, hle, ?_⟩
      refine Or.inl ⟨m2, rfl, (by first | exact trivial | exact rfl), ⟨rfl, by omega⟩, fun c d hr => ?_, trivial⟩
      obtain ⟨o, _⟩ := c
      obtain ⟨⟨k5, h5, _⟩, m5, _⟩ := d
      obtain ⟨ho, hk5, hh5, hm5⟩ := hr
      obtain rfl : k = k5 := hk5.symm
      obtain rfl : h5 = (m2.length, m2.length) := hh5
      obtain rfl : m2 = m5 := hm5.symm
      obtain rfl : o = raddL k L l[q] := ho.trans hT2.list
      refine ⟨raddL k L l[q], Wk.refl _, raddL k L l[q], Wk.refl _, by show (raddL k L l[q]).length ≤ 1000000; omega, trivial, trivial, ⟨(by first | exact trivial | exact rfl), trivial⟩, ⟨(by first | exact trivial | exact rfl), trivial⟩, ⟨(by first | exact trivial | exact rfl), trivial⟩, ⟨(by first | exact trivial | exact rfl), trivial⟩, ⟨(by first | exact trivial | exact rfl), trivial⟩, ⟨(by first | exact trivial | exact rfl), trivial⟩, ?_⟩
      rw [ifp_neg (by simp)]
      refine ⟨trivial, Or.inl ⟨l, Wk.refl _, raddL k L l[q], Wk.refl _, m2, rfl, (by first | exact trivial | exact rfl), ?_⟩⟩
      rw [wsucc (by omega)]
      exact ⟨⟨q + 1, rfl, hql, hl, rfl, k0, rfl, hT2, hm2⟩, by show l.length - (q + 1) < l.length - q; omega, fun _ _ h => h, fun _ _ h => h, trivial⟩
  · exact ⟨trivial, (by first | exact trivial | exact rfl), trivial⟩
theorem rcOk : LoopOk Try.prog 5 151 (.loop (loopBody Try.prog 5 10)) rcC := loop_ok rcMu mixed (KLX_ok (cc_cons addCc (cc_cons raddCc (cc_cons worstCc (cc_cons rworstCc (cc_cons tlistCc (cc_cons sameNCc (cc_nil)))))))) rfl (steps_cons rcStep (steps_cons rcStep0 (steps_nil)))

/-! The loop rcn of wayfinder/wayfinderlaw04.RankCalls. -/
abbrev rcnZ := ((List Near) × Unit × Unit × Int × Unit) × (Unit)
noncomputable def rcnSl : Tel ((List Near) × Unit × Unit × Int × Unit) := .cons 0 (.lst En) (.cons 9 (.con (.nilPtr) rfl) (.cons 11 (.con (.nilPtr) rfl) (.cons 13 (.int .i64) (.nil))))
noncomputable def rcnBl : BTel (Unit) := .nil
noncomputable def rcnFs : List (LForm rcnZ) := [⟨_, _, rcnSl, rcnBl, fun x y => (x, y)⟩]
noncomputable def rcnAlts (R0 : rcnZ → (Unit) → (Unit) → Prop) (R1 : rcnZ → (Unit × Unit) → (Unit) → Prop) : List (Alt rcnZ) := [⟨.exit 0, Unit, Unit, .nil, .nil, R0⟩, ⟨.ret, Unit × Unit, Unit, .cons 8 (.con (.bool false) rfl) (.nil), .nil, R1⟩]

theorem rcnForm (l : List Near) (i : Int) (N : rcnZ → Prop) (R0 : rcnZ → (Unit) → (Unit) → Prop) (R1 : rcnZ → (Unit × Unit) → (Unit) → Prop) : ((runW Try.prog (KLX [] [] [30] [] [(5, [12, 13, 14, 15, 16]), (25, [1])]) 100).code none 5 151 (loopBody Try.prog 5 10) (mkT (rcnSl.av id (l, ((), ((), (i, ())))))) [] (stL false (rcnBl.obs id ())) (postL 0 rcnFs (rcnAlts R0 R1) ((l, ((), ((), (i, ())))), ()) N)) =
  (ifp (!leInt (Int.ofNat l.length) i) (True ∧ true = true ∧ R0 ((l, (), (), i, ()), ()) () ())
    (True ∧ true = true ∧ R0 ((l, (), (), i, ()), ()) () ())) := by kernel_rfl

def rcnInv : rcnZ → Prop := fun ((l, ((), ((), (i, ())))), ()) => True
def rcnMu : rcnZ → Nat := fun ((l, ((), ((), (i, ())))), ()) => 0
def rcnR0 : rcnZ → (Unit) → (Unit) → Prop := fun ((l, ((), ((), (i, ())))), ()) _ _ => True
def rcnR1 : rcnZ → (Unit × Unit) → (Unit) → Prop := fun ((l, ((), ((), (i, ())))), ()) _ _ => False
noncomputable def rcnC : LoopC := loopC 0 rcnFs (rcnAlts rcnR0 rcnR1) rcnInv

theorem rcnStep : stepsOk Try.prog (KLX [] [] [30] [] [(5, [12, 13, 14, 15, 16]), (25, [1])]) 100 5 151 (loopBody Try.prog 5 10) 0 false rcnFs (rcnAlts rcnR0 rcnR1) rcnInv rcnMu ⟨_, _, rcnSl, rcnBl, fun x y => (x, y)⟩ := by
  intro x y hz
  obtain ⟨l, _, _, i, _⟩ := x
  obtain _ := y
  refine (rcnForm l i _ _ _).mpr ?_
  rw [ifp_lt]
  split
  · exact ⟨trivial, (by first | exact trivial | exact rfl), trivial⟩
  · exact ⟨trivial, (by first | exact trivial | exact rfl), trivial⟩
theorem rcnOk : LoopOk Try.prog 5 151 (.loop (loopBody Try.prog 5 10)) rcnC := loop_ok rcnMu mixed (KLX_ok (cc_nil)) rfl (steps_cons rcnStep (steps_nil))

noncomputable def rcxC : LoopC := orL rcC rcnC
theorem rcxOk : LoopOk Try.prog 5 151 (.loop (loopBody Try.prog 5 10)) rcxC := orL_ok rcOk rcnOk

/-! The law RankCalls. -/
noncomputable def rankCallsT : Tel ((List Near) × Int × Near × Near × Unit) := .cons 0 (.lst En) (.cons 1 (.int .i64) (.cons 2 (.agg En) (.cons 3 (.agg En) (.nil))))
abbrev rankCallsShapes : List Sh := [.slice (.fcons (.int .i64) (.fcons (.int .i64) .fnil)), .int .i64, .fcons (.int .i64) (.fcons (.int .i64) .fnil), .fcons (.int .i64) (.fcons (.int .i64) .fnil)]

theorem rankCallsFn (l : List Near) (k : Int) (a : Near) (b : Near) : (callW Try.prog (runW Try.prog (KLX [(10, lives04K), (12, newK), (19, rnewK), (18, sortedK), (22, rsortedK), (21, ownNK), (17, sameNK), (15, lessK), (20, rlessK)] [(5, [(10, rcxC)])] [30] [] [(5, [7])]) 300) 5 (rankCallsT.cells id (l, (k, (a, (b, ()))))) (stB false) (fun v _ => yesQ v)) =
  ( True ∧ ifp (!leInt (Int.ofNat l.length) (150 : Int)) True (true = true ∧ newPre ((k, ()), ()) ∧ (∀ (c : Unit × Int × Unit) (d : Unit), newR0 ((k, ()), ()) c d →
  true = true ∧ rnewPre ((k, ()), ()) ∧ (∀ (c_1 : Unit × Int × Unit) (d : Unit), rnewR0 ((k, ()), ()) c_1 d → c.2.1 = c_1.2.1 ∧ true = true ∧ ∃ (x : Int), some
  (AV.int IntKind.i64 a.fst) = some (AV.int IntKind.i64 x) ∧ ∃ (x_1 : Int), some (AV.int IntKind.i64 a.snd.fst) = some (AV.int IntKind.i64 x_1) ∧ ∃ (x_2 : Int),
  some (AV.int IntKind.i64 b.fst) = some (AV.int IntKind.i64 x_2) ∧ ∃ (x_3 : Int), some (AV.int IntKind.i64 b.snd.fst) = some (AV.int IntKind.i64 x_3) ∧ ∃ (a_3 :
  Near), AV.agg [AV.int IntKind.i64 x, AV.int IntKind.i64 x_1] = AV.agg [AV.int IntKind.i64 a_3.fst, AV.int IntKind.i64 a_3.snd.fst] ∧ ∃ (a_4 : Near), AV.agg
  [AV.int IntKind.i64 x_2, AV.int IntKind.i64 x_3] = AV.agg [AV.int IntKind.i64 a_4.fst, AV.int IntKind.i64 a_4.snd.fst] ∧ lessPre (a_3, a_4, ()) ∧ ∃ (x : Int),
  some (AV.int IntKind.i64 a.fst) = some (AV.int IntKind.i64 x) ∧ ∃ (x_4 : Int), some (AV.int IntKind.i64 a.snd.fst) = some (AV.int IntKind.i64 x_4) ∧ ∃ (x_5 :
  Int), some (AV.int IntKind.i64 b.fst) = some (AV.int IntKind.i64 x_5) ∧ ∃ (x_6 : Int), some (AV.int IntKind.i64 b.snd.fst) = some (AV.int IntKind.i64 x_6) ∧ ∃
  (a_5 : Near), AV.agg [AV.int IntKind.i64 x, AV.int IntKind.i64 x_4] = AV.agg [AV.int IntKind.i64 a_5.fst, AV.int IntKind.i64 a_5.snd.fst] ∧ ∃ (a_6 : Near),
  AV.agg [AV.int IntKind.i64 x_5, AV.int IntKind.i64 x_6] = AV.agg [AV.int IntKind.i64 a_6.fst, AV.int IntKind.i64 a_6.snd.fst] ∧ rlessPre (a_5, a_6, ()) ∧ lessV
  a_3 a_4 = lessV a_5 a_6 ∧ ∃ (l_1 : List Near), Wk (AV.vs (List.flatMap En.f l) l.length l.length false none (2 : Nat)) (lst En l_1) ∧ ownNPre (l_1, ()) ∧ ∃
  (l_2 : List Near), Wk (AV.vs (List.flatMap En.f l_1) l_1.length l_1.length false none (2 : Nat)) (lst En l_2) ∧ sortedPre (l_2, ()) ∧ ∃ (l_3 : List Near), Wk
  (AV.vs (List.flatMap En.f l) l.length l.length false none (2 : Nat)) (lst En l_3) ∧ rsortedPre (l_3, ()) ∧ ∃ (l_4 : List Near), Wk (AV.vs (List.flatMap En.f
  (nearSort l_2)) (nearSort l_2).length (nearSort l_2).length false none (2 : Nat)) (lst En l_4) ∧ ∃ (l_5 : List Near), Wk (AV.vs (List.flatMap En.f (insAll
  l_3)) (insAll l_3).length (insAll l_3).length false none (2 : Nat)) (lst En l_5) ∧ sameNPre (l_4, l_5, ()) ∧ True ∧ True ∧ ((∃ (x_7 : Int), some (AV.int
  IntKind.i64 a.fst) = some (AV.int IntKind.i64 x_7) ∧ ∃ (x_8 : Int), some (AV.int IntKind.i64 a.snd.fst) = some (AV.int IntKind.i64 x_8) ∧ AV.agg [AV.int
  IntKind.i64 x_7, AV.int IntKind.i64 x_8] = AV.agg [AV.int IntKind.i64 x, AV.int IntKind.i64 x_4]) ∧ True) ∧ ((∃ (x : Int), some (AV.int IntKind.i64 b.fst) =
  some (AV.int IntKind.i64 x) ∧ ∃ (x_7 : Int), some (AV.int IntKind.i64 b.snd.fst) = some (AV.int IntKind.i64 x_7) ∧ AV.agg [AV.int IntKind.i64 x, AV.int
  IntKind.i64 x_7] = AV.agg [AV.int IntKind.i64 x_5, AV.int IntKind.i64 x_6]) ∧ True) ∧ ifp (!decide (l_4 = l_5)) False (LoopOk Try.prog (5 : FuncId) (151 : Nat)
  (loopBody Try.prog (5 : FuncId) (10 : Nat)).loop rcxC ∧ (True ∧ True ∧ ((∃ (l_6 : List Near), Wk (AV.vs (List.flatMap En.f l) l.length l.length false none (2 :
  Nat)) (lst En l_6) ∧ False) ∨ ∃ (l_6 : List Near), Wk (AV.vs (List.flatMap En.f l) l.length l.length false none (2 : Nat)) (lst En l_6) ∧ False) ∨ True ∧ True
  ∧ ∃ (l_6 : List Near), Wk (AV.vs (List.flatMap En.f l) l.length l.length false none (2 : Nat)) (lst En l_6) ∧ AV.nilPtr = AV.nilPtr ∧ AV.nilPtr = AV.nilPtr ∧
  true = true ∧ rcnInv ((l_6, (), (), (0 : Int), ()), ()) ∧ (∀ (c d : Unit), rcnR0 ((l_6, (), (), (0 : Int), ()), ()) c d → True) ∧ (∀ (c : Unit × Unit) (d :
  Unit), rcnR1 ((l_6, (), (), (0 : Int), ()), ()) c d → False) ∧ True))) ∧ (∀ (c_1 : Unit × Int × Unit) (d : (Int × List Near × Unit) × Unit), rnewR1 ((k, ()),
  ()) c_1 d → c.2.1 = c_1.2.1 ∧ true = false ∧ ∃ (x : Int), some (AV.int IntKind.i64 a.fst) = some (AV.int IntKind.i64 x) ∧ ∃ (x_1 : Int), some (AV.int
  IntKind.i64 a.snd.fst) = some (AV.int IntKind.i64 x_1) ∧ ∃ (x_2 : Int), some (AV.int IntKind.i64 b.fst) = some (AV.int IntKind.i64 x_2) ∧ ∃ (x_3 : Int), some
  (AV.int IntKind.i64 b.snd.fst) = some (AV.int IntKind.i64 x_3) ∧ ∃ (a_3 : Near), AV.agg [AV.int IntKind.i64 x, AV.int IntKind.i64 x_1] = AV.agg [AV.int
  IntKind.i64 a_3.fst, AV.int IntKind.i64 a_3.snd.fst] ∧ ∃ (a_4 : Near), AV.agg [AV.int IntKind.i64 x_2, AV.int IntKind.i64 x_3] = AV.agg [AV.int IntKind.i64
  a_4.fst, AV.int IntKind.i64 a_4.snd.fst] ∧ lessPre (a_3, a_4, ()) ∧ ∃ (x : Int), some (AV.int IntKind.i64 a.fst) = some (AV.int IntKind.i64 x) ∧ ∃ (x_4 : Int),
  some (AV.int IntKind.i64 a.snd.fst) = some (AV.int IntKind.i64 x_4) ∧ ∃ (x_5 : Int), some (AV.int IntKind.i64 b.fst) = some (AV.int IntKind.i64 x_5) ∧ ∃ (x_6 :
  Int), some (AV.int IntKind.i64 b.snd.fst) = some (AV.int IntKind.i64 x_6) ∧ ∃ (a_5 : Near), AV.agg [AV.int IntKind.i64 x, AV.int IntKind.i64 x_4] = AV.agg
  [AV.int IntKind.i64 a_5.fst, AV.int IntKind.i64 a_5.snd.fst] ∧ ∃ (a_6 : Near), AV.agg [AV.int IntKind.i64 x_5, AV.int IntKind.i64 x_6] = AV.agg [AV.int
  IntKind.i64 a_6.fst, AV.int IntKind.i64 a_6.snd.fst] ∧ rlessPre (a_5, a_6, ()) ∧ lessV a_3 a_4 = lessV a_5 a_6 ∧ ∃ (l_1 : List Near), Wk (AV.vs (List.flatMap
  En.f l) l.length l.length false none (2 : Nat)) (lst En l_1) ∧ ownNPre (l_1, ()) ∧ ∃ (l_2 : List Near), Wk (AV.vs (List.flatMap En.f l_1) l_1.length l_1.length
  false none (2 : Nat)) (lst En l_2) ∧ sortedPre (l_2, ()) ∧ ∃ (l_3 : List Near), Wk (AV.vs (List.flatMap En.f l) l.length l.length false none (2 : Nat)) (lst En
  l_3) ∧ rsortedPre (l_3, ()) ∧ ∃ (l_4 : List Near), Wk (AV.vs (List.flatMap En.f (nearSort l_2)) (nearSort l_2).length (nearSort l_2).length false none (2 :
  Nat)) (lst En l_4) ∧ ∃ (l_5 : List Near), Wk (AV.vs (List.flatMap En.f (insAll l_3)) (insAll l_3).length (insAll l_3).length false none (2 : Nat)) (lst En l_5)
  ∧ sameNPre (l_4, l_5, ()) ∧ True ∧ True ∧ ((∃ (x_7 : Int), some (AV.int IntKind.i64 a.fst) = some (AV.int IntKind.i64 x_7) ∧ ∃ (x_8 : Int), some (AV.int
  IntKind.i64 a.snd.fst) = some (AV.int IntKind.i64 x_8) ∧ AV.agg [AV.int IntKind.i64 x_7, AV.int IntKind.i64 x_8] = AV.agg [AV.int IntKind.i64 x, AV.int
  IntKind.i64 x_4]) ∧ True) ∧ ((∃ (x : Int), some (AV.int IntKind.i64 b.fst) = some (AV.int IntKind.i64 x) ∧ ∃ (x_7 : Int), some (AV.int IntKind.i64 b.snd.fst) =
  some (AV.int IntKind.i64 x_7) ∧ AV.agg [AV.int IntKind.i64 x, AV.int IntKind.i64 x_7] = AV.agg [AV.int IntKind.i64 x_5, AV.int IntKind.i64 x_6]) ∧ True) ∧ ifp
  (!decide (l_4 = l_5)) False (LoopOk Try.prog (5 : FuncId) (151 : Nat) (loopBody Try.prog (5 : FuncId) (10 : Nat)).loop rcxC ∧ (True ∧ True ∧ ((∃ (l_6 : List
  Near), Wk (AV.vs (List.flatMap En.f l) l.length l.length false none (2 : Nat)) (lst En l_6) ∧ False) ∨ ∃ (l_6 : List Near), Wk (AV.vs (List.flatMap En.f l)
  l.length l.length false none (2 : Nat)) (lst En l_6) ∧ False) ∨ True ∧ True ∧ ∃ (l_6 : List Near), Wk (AV.vs (List.flatMap En.f l) l.length l.length false none
  (2 : Nat)) (lst En l_6) ∧ AV.nilPtr = AV.nilPtr ∧ AV.ptr (2 : Nat) (0 : Nat) = AV.nilPtr ∧ true = true ∧ rcnInv ((l_6, (), (), (0 : Int), ()), ()) ∧ (∀ (c d :
  Unit), rcnR0 ((l_6, (), (), (0 : Int), ()), ()) c d → True) ∧ (∀ (c : Unit × Unit) (d : Unit), rcnR1 ((l_6, (), (), (0 : Int), ()), ()) c d → False) ∧ True)))
  ∧ True) ∧ (∀ (c : Unit × Int × Unit) (d : (Int × Unit × Unit) × Unit), newR1 ((k, ()), ()) c d → true = true ∧ rnewPre ((k, ()), ()) ∧ (∀ (c_1 : Unit × Int ×
  Unit) (d : Unit), rnewR0 ((k, ()), ()) c_1 d → c.2.1 = c_1.2.1 ∧ false = true ∧ ∃ (x : Int), some (AV.int IntKind.i64 a.fst) = some (AV.int IntKind.i64 x) ∧ ∃
  (x_1 : Int), some (AV.int IntKind.i64 a.snd.fst) = some (AV.int IntKind.i64 x_1) ∧ ∃ (x_2 : Int), some (AV.int IntKind.i64 b.fst) = some (AV.int IntKind.i64
  x_2) ∧ ∃ (x_3 : Int), some (AV.int IntKind.i64 b.snd.fst) = some (AV.int IntKind.i64 x_3) ∧ ∃ (a_3 : Near), AV.agg [AV.int IntKind.i64 x, AV.int IntKind.i64
  x_1] = AV.agg [AV.int IntKind.i64 a_3.fst, AV.int IntKind.i64 a_3.snd.fst] ∧ ∃ (a_4 : Near), AV.agg [AV.int IntKind.i64 x_2, AV.int IntKind.i64 x_3] = AV.agg
  [AV.int IntKind.i64 a_4.fst, AV.int IntKind.i64 a_4.snd.fst] ∧ lessPre (a_3, a_4, ()) ∧ ∃ (x : Int), some (AV.int IntKind.i64 a.fst) = some (AV.int IntKind.i64
  x) ∧ ∃ (x_4 : Int), some (AV.int IntKind.i64 a.snd.fst) = some (AV.int IntKind.i64 x_4) ∧ ∃ (x_5 : Int), some (AV.int IntKind.i64 b.fst) = some (AV.int
  IntKind.i64 x_5) ∧ ∃ (x_6 : Int), some (AV.int IntKind.i64 b.snd.fst) = some (AV.int IntKind.i64 x_6) ∧ ∃ (a_5 : Near), AV.agg [AV.int IntKind.i64 x, AV.int
  IntKind.i64 x_4] = AV.agg [AV.int IntKind.i64 a_5.fst, AV.int IntKind.i64 a_5.snd.fst] ∧ ∃ (a_6 : Near), AV.agg [AV.int IntKind.i64 x_5, AV.int IntKind.i64
  x_6] = AV.agg [AV.int IntKind.i64 a_6.fst, AV.int IntKind.i64 a_6.snd.fst] ∧ rlessPre (a_5, a_6, ()) ∧ lessV a_3 a_4 = lessV a_5 a_6 ∧ ∃ (l_1 : List Near), Wk
  (AV.vs (List.flatMap En.f l) l.length l.length false none (2 : Nat)) (lst En l_1) ∧ ownNPre (l_1, ()) ∧ ∃ (l_2 : List Near), Wk (AV.vs (List.flatMap En.f l_1)
  l_1.length l_1.length false none (2 : Nat)) (lst En l_2) ∧ sortedPre (l_2, ()) ∧ ∃ (l_3 : List Near), Wk (AV.vs (List.flatMap En.f l) l.length l.length false
  none (2 : Nat)) (lst En l_3) ∧ rsortedPre (l_3, ()) ∧ ∃ (l_4 : List Near), Wk (AV.vs (List.flatMap En.f (nearSort l_2)) (nearSort l_2).length (nearSort
  l_2).length false none (2 : Nat)) (lst En l_4) ∧ ∃ (l_5 : List Near), Wk (AV.vs (List.flatMap En.f (insAll l_3)) (insAll l_3).length (insAll l_3).length false
  none (2 : Nat)) (lst En l_5) ∧ sameNPre (l_4, l_5, ()) ∧ True ∧ True ∧ ((∃ (x_7 : Int), some (AV.int IntKind.i64 a.fst) = some (AV.int IntKind.i64 x_7) ∧ ∃
  (x_8 : Int), some (AV.int IntKind.i64 a.snd.fst) = some (AV.int IntKind.i64 x_8) ∧ AV.agg [AV.int IntKind.i64 x_7, AV.int IntKind.i64 x_8] = AV.agg [AV.int
  IntKind.i64 x, AV.int IntKind.i64 x_4]) ∧ True) ∧ ((∃ (x : Int), some (AV.int IntKind.i64 b.fst) = some (AV.int IntKind.i64 x) ∧ ∃ (x_7 : Int), some (AV.int
  IntKind.i64 b.snd.fst) = some (AV.int IntKind.i64 x_7) ∧ AV.agg [AV.int IntKind.i64 x, AV.int IntKind.i64 x_7] = AV.agg [AV.int IntKind.i64 x_5, AV.int
  IntKind.i64 x_6]) ∧ True) ∧ ifp (!decide (l_4 = l_5)) False (LoopOk Try.prog (5 : FuncId) (151 : Nat) (loopBody Try.prog (5 : FuncId) (10 : Nat)).loop rcxC ∧
  (True ∧ True ∧ ((∃ (l_6 : List Near), Wk (AV.vs (List.flatMap En.f l) l.length l.length false none (2 : Nat)) (lst En l_6) ∧ False) ∨ ∃ (l_6 : List Near), Wk
  (AV.vs (List.flatMap En.f l) l.length l.length false none (2 : Nat)) (lst En l_6) ∧ False) ∨ True ∧ True ∧ ∃ (l_6 : List Near), Wk (AV.vs (List.flatMap En.f l)
  l.length l.length false none (2 : Nat)) (lst En l_6) ∧ AV.ptr (2 : Nat) (0 : Nat) = AV.nilPtr ∧ AV.nilPtr = AV.nilPtr ∧ true = true ∧ rcnInv ((l_6, (), (), (0
  : Int), ()), ()) ∧ (∀ (c d : Unit), rcnR0 ((l_6, (), (), (0 : Int), ()), ()) c d → True) ∧ (∀ (c : Unit × Unit) (d : Unit), rcnR1 ((l_6, (), (), (0 : Int),
  ()), ()) c d → False) ∧ True))) ∧ (∀ (c_1 : Unit × Int × Unit) (d_1 : (Int × List Near × Unit) × Unit), rnewR1 ((k, ()), ()) c_1 d_1 → c.2.1 = c_1.2.1 ∧ false
  = false ∧ ∃ (x : Int), some (AV.int IntKind.i64 a.fst) = some (AV.int IntKind.i64 x) ∧ ∃ (x_1 : Int), some (AV.int IntKind.i64 a.snd.fst) = some (AV.int
  IntKind.i64 x_1) ∧ ∃ (x_2 : Int), some (AV.int IntKind.i64 b.fst) = some (AV.int IntKind.i64 x_2) ∧ ∃ (x_3 : Int), some (AV.int IntKind.i64 b.snd.fst) = some
  (AV.int IntKind.i64 x_3) ∧ ∃ (a_3 : Near), AV.agg [AV.int IntKind.i64 x, AV.int IntKind.i64 x_1] = AV.agg [AV.int IntKind.i64 a_3.fst, AV.int IntKind.i64
  a_3.snd.fst] ∧ ∃ (a_4 : Near), AV.agg [AV.int IntKind.i64 x_2, AV.int IntKind.i64 x_3] = AV.agg [AV.int IntKind.i64 a_4.fst, AV.int IntKind.i64 a_4.snd.fst] ∧
  lessPre (a_3, a_4, ()) ∧ ∃ (x : Int), some (AV.int IntKind.i64 a.fst) = some (AV.int IntKind.i64 x) ∧ ∃ (x_4 : Int), some (AV.int IntKind.i64 a.snd.fst) = some
  (AV.int IntKind.i64 x_4) ∧ ∃ (x_5 : Int), some (AV.int IntKind.i64 b.fst) = some (AV.int IntKind.i64 x_5) ∧ ∃ (x_6 : Int), some (AV.int IntKind.i64 b.snd.fst)
  = some (AV.int IntKind.i64 x_6) ∧ ∃ (a_5 : Near), AV.agg [AV.int IntKind.i64 x, AV.int IntKind.i64 x_4] = AV.agg [AV.int IntKind.i64 a_5.fst, AV.int
  IntKind.i64 a_5.snd.fst] ∧ ∃ (a_6 : Near), AV.agg [AV.int IntKind.i64 x_5, AV.int IntKind.i64 x_6] = AV.agg [AV.int IntKind.i64 a_6.fst, AV.int IntKind.i64
  a_6.snd.fst] ∧ rlessPre (a_5, a_6, ()) ∧ lessV a_3 a_4 = lessV a_5 a_6 ∧ ∃ (l_1 : List Near), Wk (AV.vs (List.flatMap En.f l) l.length l.length false none (2 :
  Nat)) (lst En l_1) ∧ ownNPre (l_1, ()) ∧ ∃ (l_2 : List Near), Wk (AV.vs (List.flatMap En.f l_1) l_1.length l_1.length false none (2 : Nat)) (lst En l_2) ∧
  sortedPre (l_2, ()) ∧ ∃ (l_3 : List Near), Wk (AV.vs (List.flatMap En.f l) l.length l.length false none (2 : Nat)) (lst En l_3) ∧ rsortedPre (l_3, ()) ∧ ∃ (l_4
  : List Near), Wk (AV.vs (List.flatMap En.f (nearSort l_2)) (nearSort l_2).length (nearSort l_2).length false none (2 : Nat)) (lst En l_4) ∧ ∃ (l_5 : List
  Near), Wk (AV.vs (List.flatMap En.f (insAll l_3)) (insAll l_3).length (insAll l_3).length false none (2 : Nat)) (lst En l_5) ∧ sameNPre (l_4, l_5, ()) ∧ True ∧
  True ∧ ((∃ (x_7 : Int), some (AV.int IntKind.i64 a.fst) = some (AV.int IntKind.i64 x_7) ∧ ∃ (x_8 : Int), some (AV.int IntKind.i64 a.snd.fst) = some (AV.int
  IntKind.i64 x_8) ∧ AV.agg [AV.int IntKind.i64 x_7, AV.int IntKind.i64 x_8] = AV.agg [AV.int IntKind.i64 x, AV.int IntKind.i64 x_4]) ∧ True) ∧ ((∃ (x : Int),
  some (AV.int IntKind.i64 b.fst) = some (AV.int IntKind.i64 x) ∧ ∃ (x_7 : Int), some (AV.int IntKind.i64 b.snd.fst) = some (AV.int IntKind.i64 x_7) ∧ AV.agg
  [AV.int IntKind.i64 x, AV.int IntKind.i64 x_7] = AV.agg [AV.int IntKind.i64 x_5, AV.int IntKind.i64 x_6]) ∧ True) ∧ ifp (!decide (l_4 = l_5)) False (LoopOk
  Try.prog (5 : FuncId) (151 : Nat) (loopBody Try.prog (5 : FuncId) (10 : Nat)).loop rcxC ∧ (True ∧ True ∧ ((∃ (l_6 : List Near), Wk (AV.vs (List.flatMap En.f l)
  l.length l.length false none (2 : Nat)) (lst En l_6) ∧ False) ∨ ∃ (l_6 : List Near), Wk (AV.vs (List.flatMap En.f l) l.length l.length false none (2 : Nat))
  (lst En l_6) ∧ ∃ (l : List Near), Wk (AV.vs (List.flatMap En.f d_1.1.2.1) d_1.1.2.1.length d_1.1.2.1.length false none (2 : Nat)) (lst En l) ∧ true = true ∧
  rcInv ((l_6, (), (), (0 : Int), ()), (d.1.1, ((0 : Nat), (0 : Nat)), ()), (d_1.1.1, l, ()), [], ()) ∧ (∀ (c d_2 : Unit), rcR0 ((l_6, (), (), (0 : Int), ()),
  (d.1.1, ((0 : Nat), (0 : Nat)), ()), (d_1.1.1, l, ()), [], ()) c d_2 → True) ∧ (∀ (c : Unit × Unit) (d_2 : Unit), rcR1 ((l_6, (), (), (0 : Int), ()), (d.1.1,
  ((0 : Nat), (0 : Nat)), ()), (d_1.1.1, l, ()), [], ()) c d_2 → False) ∧ True) ∨ True ∧ True ∧ ∃ (l_6 : List Near), Wk (AV.vs (List.flatMap En.f l) l.length
  l.length false none (2 : Nat)) (lst En l_6) ∧ AV.ptr (2 : Nat) (0 : Nat) = AV.nilPtr ∧ AV.ptr (3 : Nat) (0 : Nat) = AV.nilPtr ∧ true = true ∧ rcnInv ((l_6, (),
  (), (0 : Int), ()), ()) ∧ (∀ (c d : Unit), rcnR0 ((l_6, (), (), (0 : Int), ()), ()) c d → True) ∧ (∀ (c : Unit × Unit) (d : Unit), rcnR1 ((l_6, (), (), (0 :
  Int), ()), ()) c d → False) ∧ True))) ∧ True) ∧ True)) := by kernel_rfl

theorem rankCallsHolds (l : List Near) (k : Int) (a : Near) (b : Near) (hl : Sh.plOk (.slice (.fcons (.int .i64) (.fcons (.int .i64) .fnil))) l) (hk : Sh.plOk (.int .i64) k) (ha : Sh.plOk (.fcons (.int .i64) (.fcons (.int .i64) .fnil)) a) (hb : Sh.plOk (.fcons (.int .i64) (.fcons (.int .i64) .fnil)) b) : callW Try.prog (runW Try.prog (KLX [(10, lives04K), (12, newK), (19, rnewK), (18, sortedK), (22, rsortedK), (21, ownNK), (17, sameNK), (15, lessK), (20, rlessK)] [(5, [(10, rcxC)])] [30] [] [(5, [7])]) 300) 5 (rankCallsT.cells id (l, (k, (a, (b, ()))))) (stB false) (fun v _ => yesQ v) := by
  refine (rankCallsFn l k a b).mpr ?_
  refine ⟨trivial, ?_⟩
  rw [ifp_lt]
  split
  · trivial
  · rename_i hlen
    have hl : l.length ≤ 150 := by simp only [Int.ofNat_eq_natCast] at hlen; omega
    have hL6 : l.length ≤ 1000000 := by omega
    have hL5 : l.length ≤ 100000 := by omega
    have hSl : (nearSort l).length ≤ 1000000 := by rw [nearSort_len]; omega
    refine ⟨(by first | exact trivial | exact rfl), trivial, fun c d hr => ⟨(by first | exact trivial | exact rfl), trivial, fun c1 d1 hr1 => ?_, fun c1 d1 hr1 => ?_, trivial⟩, fun c d hr => ⟨(by first | exact trivial | exact rfl), trivial, fun c1 d1 hr1 => ?_, fun c1 d1 hr1 => ?_, trivial⟩, trivial⟩
    · refine ⟨hr.1.trans hr1.1.symm, (by first | exact trivial | exact rfl), ?_⟩
      refine ⟨_, rfl, _, rfl, _, rfl, _, rfl, a, rfl, b, rfl, trivial, _, rfl, _, rfl, _, rfl, _, rfl, a, rfl, b, rfl, trivial, (by first | exact trivial | exact rfl), l, Wk.refl _, hL6, l, Wk.refl _, hL6, l, Wk.refl _, hL5, nearSort l, Wk.refl _, insAll l, Wk.refl _, hSl, trivial, trivial, ⟨⟨_, rfl, _, rfl, rfl⟩, trivial⟩, ⟨⟨_, rfl, _, rfl, rfl⟩, trivial⟩, ?_⟩
      rw [ifp_neg (by simp [sort_ins])]
      exact ⟨rcxOk, Or.inr ⟨trivial, trivial, l, Wk.refl _, rfl, rfl, (by first | exact trivial | exact rfl), trivial, fun _ _ _ => trivial, fun _ _ h => h, trivial⟩⟩
    · exfalso
      obtain ⟨_, h1⟩ := hr
      obtain ⟨_, h2, h3, _⟩ := hr1
      omega
    · exfalso
      obtain ⟨_, h1⟩ := hr1
      obtain ⟨_, h2, h3, _⟩ := hr
      omega
    · obtain ⟨t, e, _⟩ := c
      obtain ⟨t1, e1, _⟩ := c1
      obtain ⟨⟨k2, _⟩, _⟩ := d
      obtain ⟨⟨k3, L3, _⟩, _⟩ := d1
      obtain ⟨he, q1, q2, q3⟩ := hr
      obtain ⟨he1, _, _, q4, q5⟩ := hr1
      obtain rfl : k2 = k := q3
      obtain rfl : k3 = k2 := q4
      obtain rfl : L3 = [] := q5
      have q1' : 0 ≤ k3 := q1
      refine ⟨he.trans he1.symm, (by first | exact trivial | exact rfl), ?_⟩
      refine ⟨_, rfl, _, rfl, _, rfl, _, rfl, a, rfl, b, rfl, trivial, _, rfl, _, rfl, _, rfl, _, rfl, a, rfl, b, rfl, trivial, (by first | exact trivial | exact rfl), l, Wk.refl _, hL6, l, Wk.refl _, hL6, l, Wk.refl _, hL5, nearSort l, Wk.refl _, insAll l, Wk.refl _, hSl, trivial, trivial, ⟨⟨_, rfl, _, rfl, rfl⟩, trivial⟩, ⟨⟨_, rfl, _, rfl, rfl⟩, trivial⟩, ?_⟩
      rw [ifp_neg (by simp [sort_ins])]
      refine ⟨rcxOk, Or.inl ⟨trivial, trivial, Or.inr ⟨l, Wk.refl _, [], Wk.refl _, (by first | exact trivial | exact rfl), ⟨0, rfl, Nat.zero_le _, hl, rfl, q1', rfl, ⟨List.Perm.refl _, List.Pairwise.nil, fun j hj => by simp at hj, by simpa using q1'⟩, Nat.le_refl _⟩, fun _ _ _ => trivial, fun _ _ h => h, trivial⟩⟩⟩
theorem rankCallsTrue (y : ShPls rankCallsShapes) (hy : ShPlOks rankCallsShapes y) : callW Try.prog (runW Try.prog (KLX [(10, lives04K), (12, newK), (19, rnewK), (18, sortedK), (22, rsortedK), (21, ownNK), (17, sameNK), (15, lessK), (20, rlessK)] [(5, [(10, rcxC)])] [30] [] [(5, [7])]) 300) 5 (ShPlAvs rankCallsShapes y) (stB false) (fun v _ => yesQ v) :=
  rankCallsHolds y.1 y.2.1 y.2.2.1 y.2.2.2.1 hy.1 hy.2.1 hy.2.2.1 hy.2.2.2.1
theorem rankCallsCalls {x : ShVs rankCallsShapes} (hx : ShOks rankCallsShapes x) {W : World} {args : Array Value} (h : VRs (frozenAll W) (ShAvs rankCallsShapes x) args.toList) : Calls Try.prog 5 args W fun e w' => e = .returned (.bool true) ∧ Below W.heap.size W w' :=
  law_plain mixed (KLX_ok (cc_cons lives04Cc (cc_cons newCc (cc_cons rnewCc (cc_cons sortedCc (cc_cons rsortedCc (cc_cons ownNCc (cc_cons sameNCc (cc_cons lessCc (cc_cons rlessCc (cc_nil))))))))))) rankCallsTrue hx h

end Go.Proofs.Ytfcdpdejoogapaa
