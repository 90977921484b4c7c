/- Forms and contracts, printed by gx.py. -/
import Derived.Test.YtfcdpdejoogapaaRows
import Derived.Test.YtfcdpdejoogapaaDvUse
import Derived.Test.YtfcdpdejoogapaaDvArg
import Derived.ProofKit
import Derived.Test.YtfcdpdejoogapaaBase
import Derived.Test.YtfcdpdejoogapaaSort
import Derived.Test.YtfcdpdejoogapaaDvSort
import Derived.Test.YtfcdpdejoogapaaDvHp
import Derived.Test.YtfcdpdejoogapaaRank
import Derived.Test.YtfcdpdejoogapaaHeap
import Derived.Test.YtfcdpdejoogapaaDvStab
import Derived.Test.YtfcdpdejoogapaaRankMergesA
namespace Go.Proofs.Ytfcdpdejoogapaa
open Go.Det Go.RowKit
set_option linter.unusedVariables false
set_option linter.unusedSimpArgs false
set_option maxRecDepth 100000
def McX (k : Int) (l : List Near) (u : Nat) (o : Int) : List Near := if o = 1 then [] else if o = 2 then [] ++ (topL k (l.take u)).reverse else ([] ++ (topL k (l.take u)).reverse) ++ (topL k (l.drop u)).reverse

noncomputable def mbp0C : LoopC := orL mb01C mb02C
theorem mbp0Ok : LoopOk Try.prog 4 122 (.loop (loopBody Try.prog 4 26)) mbp0C := orL_ok mb01Ok mb02Ok

noncomputable def mbp1C : LoopC := orL mb11C mb12C
theorem mbp1Ok : LoopOk Try.prog 4 122 (.loop (loopBody Try.prog 4 26)) mbp1C := orL_ok mb11Ok mb12Ok

noncomputable def mbp2C : LoopC := orL mb21C mb22C
theorem mbp2Ok : LoopOk Try.prog 4 122 (.loop (loopBody Try.prog 4 26)) mbp2C := orL_ok mb21Ok mb22Ok

noncomputable def mbp3C : LoopC := orL mb31C mb32C
theorem mbp3Ok : LoopOk Try.prog 4 122 (.loop (loopBody Try.prog 4 26)) mbp3C := orL_ok mb31Ok mb32Ok

/-! The loop mc0 of wayfinder/wayfinderlaw04.RankMerges. -/
abbrev mc0Z := ((List Near) × Int × Nat × Int × Unit) × ((Unit × Unit × Unit × Unit × Unit) × (Int × (Nat × Nat) × Unit) × (Int × (Nat × Nat) × Unit) × (Int × (Nat × Nat) × Unit) × (Int × (Nat × Nat) × Unit) × (List Near) × (List Near) × (List Near) × (List Near) × Unit)
noncomputable def mc0Sl : Tel ((List Near) × Int × Nat × Int × Unit) := .cons 0 (.lst En) (.cons 2 (.int .i64) (.cons 7 (.sl 0 1) (.cons 12 (.int .i64) (.nil))))
noncomputable def mc0Bl : BTel ((Unit × Unit × Unit × Unit × Unit) × (Int × (Nat × Nat) × Unit) × (Int × (Nat × Nat) × Unit) × (Int × (Nat × Nat) × Unit) × (Int × (Nat × Nat) × Unit) × (List Near) × (List Near) × (List Near) × (List Near) × Unit) := .cons (.row (.cons 0 (.ptr 1) (.cons 1 (.ptr 2) (.cons 2 (.ptr 3) (.cons 3 (.ptr 4) (.nil)))))) (.cons (.row (.cons 0 (.int .i64) (.cons 1 (.slq 5 2) (.nil)))) (.cons (.row (.cons 0 (.int .i64) (.cons 1 (.slq 6 2) (.nil)))) (.cons (.row (.cons 0 (.int .i64) (.cons 1 (.slq 7 2) (.nil)))) (.cons (.row (.cons 0 (.int .i64) (.cons 1 (.slq 8 2) (.nil)))) (.cons (.rows En 30) (.cons (.rows En 30) (.cons (.rows En 30) (.cons (.rows En 30) (.nil)))))))))
noncomputable def mc0Sl0 : Tel ((List Near) × Int × Nat × Unit × Unit) := .cons 0 (.lst En) (.cons 2 (.int .i64) (.cons 7 (.sl 0 1) (.cons 12 (.num .i64 1) (.nil))))
noncomputable def mc0Bl0 : BTel ((Unit × Unit × Unit × Unit × Unit) × (Int × (Nat × Nat) × Unit) × (Int × (Nat × Nat) × Unit) × (Int × (Nat × Nat) × Unit) × (Int × Unit × Unit) × (List Near) × (List Near) × (List Near) × Unit) := .cons (.row (.cons 0 (.ptr 1) (.cons 1 (.ptr 2) (.cons 2 (.ptr 3) (.cons 3 (.ptr 4) (.nil)))))) (.cons (.row (.cons 0 (.int .i64) (.cons 1 (.slq 5 2) (.nil)))) (.cons (.row (.cons 0 (.int .i64) (.cons 1 (.slq 6 2) (.nil)))) (.cons (.row (.cons 0 (.int .i64) (.cons 1 (.slq 7 2) (.nil)))) (.cons (.row (.cons 0 (.int .i64) (.cons 1 (.nilS) (.nil)))) (.cons (.rows En 30) (.cons (.rows En 30) (.cons (.rows En 30) (.nil))))))))
noncomputable def mc0Z0 : ((List Near) × Int × Nat × Unit × Unit) → ((Unit × Unit × Unit × Unit × Unit) × (Int × (Nat × Nat) × Unit) × (Int × (Nat × Nat) × Unit) × (Int × (Nat × Nat) × Unit) × (Int × Unit × Unit) × (List Near) × (List Near) × (List Near) × Unit) → mc0Z := fun (l, (k, (s, ((), ())))) (((), ((), ((), ((), ())))), ((k1, (h1, ())), ((k2, (h2, ())), ((k3, (h3, ())), ((k4, ((), ())), (m1, (m2, (m3, ())))))))) => ((l, (k, (s, (1, ())))), (((), ((), ((), ((), ())))), ((k1, (h1, ())), ((k2, (h2, ())), ((k3, (h3, ())), ((k4, ((0, 0), ())), (m1, (m2, (m3, ([], ()))))))))))
noncomputable def mc0Sl1 : Tel ((List Near) × Int × Nat × Unit × Unit) := .cons 0 (.lst En) (.cons 2 (.int .i64) (.cons 7 (.sl 0 1) (.cons 12 (.num .i64 2) (.nil))))
noncomputable def mc0Bl1 : BTel ((Unit × Unit × Unit × Unit × Unit) × (Int × (Nat × Nat) × Unit) × (Int × (Nat × Nat) × Unit) × (Int × (Nat × Nat) × Unit) × (Int × Unit × Unit) × (List Near) × (List Near) × (List Near) × Unit) := .cons (.row (.cons 0 (.ptr 1) (.cons 1 (.ptr 2) (.cons 2 (.ptr 3) (.cons 3 (.ptr 4) (.nil)))))) (.cons (.row (.cons 0 (.int .i64) (.cons 1 (.slq 5 2) (.nil)))) (.cons (.row (.cons 0 (.int .i64) (.cons 1 (.slq 6 2) (.nil)))) (.cons (.row (.cons 0 (.int .i64) (.cons 1 (.slq 7 2) (.nil)))) (.cons (.row (.cons 0 (.int .i64) (.cons 1 (.nilS) (.nil)))) (.cons (.rows En 30) (.cons (.rows En 30) (.cons (.rows En 30) (.nil))))))))
noncomputable def mc0Z1 : ((List Near) × Int × Nat × Unit × Unit) → ((Unit × Unit × Unit × Unit × Unit) × (Int × (Nat × Nat) × Unit) × (Int × (Nat × Nat) × Unit) × (Int × (Nat × Nat) × Unit) × (Int × Unit × Unit) × (List Near) × (List Near) × (List Near) × Unit) → mc0Z := fun (l, (k, (s, ((), ())))) (((), ((), ((), ((), ())))), ((k1, (h1, ())), ((k2, (h2, ())), ((k3, (h3, ())), ((k4, ((), ())), (m1, (m2, (m3, ())))))))) => ((l, (k, (s, (2, ())))), (((), ((), ((), ((), ())))), ((k1, (h1, ())), ((k2, (h2, ())), ((k3, (h3, ())), ((k4, ((0, 0), ())), (m1, (m2, (m3, ([], ()))))))))))
noncomputable def mc0Sl2 : Tel ((List Near) × Int × Nat × Unit × Unit) := .cons 0 (.lst En) (.cons 2 (.int .i64) (.cons 7 (.sl 0 1) (.cons 12 (.num .i64 2) (.nil))))
noncomputable def mc0Bl2 : BTel ((Unit × Unit × Unit × Unit × Unit) × (Int × (Nat × Nat) × Unit) × (Int × (Nat × Nat) × Unit) × (Int × (Nat × Nat) × Unit) × (Int × (Nat × Nat) × Unit) × (List Near) × (List Near) × (List Near) × (List Near) × Unit) := .cons (.row (.cons 0 (.ptr 1) (.cons 1 (.ptr 2) (.cons 2 (.ptr 3) (.cons 3 (.ptr 4) (.nil)))))) (.cons (.row (.cons 0 (.int .i64) (.cons 1 (.slq 5 2) (.nil)))) (.cons (.row (.cons 0 (.int .i64) (.cons 1 (.slq 6 2) (.nil)))) (.cons (.row (.cons 0 (.int .i64) (.cons 1 (.slq 7 2) (.nil)))) (.cons (.row (.cons 0 (.int .i64) (.cons 1 (.slq 8 2) (.nil)))) (.cons (.rows En 30) (.cons (.rows En 30) (.cons (.rows En 30) (.cons (.rows En 30) (.nil)))))))))
noncomputable def mc0Z2 : ((List Near) × Int × Nat × Unit × Unit) → ((Unit × Unit × Unit × Unit × Unit) × (Int × (Nat × Nat) × Unit) × (Int × (Nat × Nat) × Unit) × (Int × (Nat × Nat) × Unit) × (Int × (Nat × Nat) × Unit) × (List Near) × (List Near) × (List Near) × (List Near) × Unit) → mc0Z := fun (l, (k, (s, ((), ())))) (((), ((), ((), ((), ())))), ((k1, (h1, ())), ((k2, (h2, ())), ((k3, (h3, ())), ((k4, (h4, ())), (m1, (m2, (m3, (m4, ()))))))))) => ((l, (k, (s, (2, ())))), (((), ((), ((), ((), ())))), ((k1, (h1, ())), ((k2, (h2, ())), ((k3, (h3, ())), ((k4, (h4, ())), (m1, (m2, (m3, (m4, ()))))))))))
noncomputable def mc0Sl3 : Tel ((List Near) × Int × Nat × Unit × Unit) := .cons 0 (.lst En) (.cons 2 (.int .i64) (.cons 7 (.sl 0 1) (.cons 12 (.num .i64 3) (.nil))))
noncomputable def mc0Bl3 : BTel ((Unit × Unit × Unit × Unit × Unit) × (Int × (Nat × Nat) × Unit) × (Int × (Nat × Nat) × Unit) × (Int × (Nat × Nat) × Unit) × (Int × Unit × Unit) × (List Near) × (List Near) × (List Near) × Unit) := .cons (.row (.cons 0 (.ptr 1) (.cons 1 (.ptr 2) (.cons 2 (.ptr 3) (.cons 3 (.ptr 4) (.nil)))))) (.cons (.row (.cons 0 (.int .i64) (.cons 1 (.slq 5 2) (.nil)))) (.cons (.row (.cons 0 (.int .i64) (.cons 1 (.slq 6 2) (.nil)))) (.cons (.row (.cons 0 (.int .i64) (.cons 1 (.slq 7 2) (.nil)))) (.cons (.row (.cons 0 (.int .i64) (.cons 1 (.nilS) (.nil)))) (.cons (.rows En 30) (.cons (.rows En 30) (.cons (.rows En 30) (.nil))))))))
noncomputable def mc0Z3 : ((List Near) × Int × Nat × Unit × Unit) → ((Unit × Unit × Unit × Unit × Unit) × (Int × (Nat × Nat) × Unit) × (Int × (Nat × Nat) × Unit) × (Int × (Nat × Nat) × Unit) × (Int × Unit × Unit) × (List Near) × (List Near) × (List Near) × Unit) → mc0Z := fun (l, (k, (s, ((), ())))) (((), ((), ((), ((), ())))), ((k1, (h1, ())), ((k2, (h2, ())), ((k3, (h3, ())), ((k4, ((), ())), (m1, (m2, (m3, ())))))))) => ((l, (k, (s, (3, ())))), (((), ((), ((), ((), ())))), ((k1, (h1, ())), ((k2, (h2, ())), ((k3, (h3, ())), ((k4, ((0, 0), ())), (m1, (m2, (m3, ([], ()))))))))))
noncomputable def mc0Sl4 : Tel ((List Near) × Int × Nat × Unit × Unit) := .cons 0 (.lst En) (.cons 2 (.int .i64) (.cons 7 (.sl 0 1) (.cons 12 (.num .i64 3) (.nil))))
noncomputable def mc0Bl4 : BTel ((Unit × Unit × Unit × Unit × Unit) × (Int × (Nat × Nat) × Unit) × (Int × (Nat × Nat) × Unit) × (Int × (Nat × Nat) × Unit) × (Int × (Nat × Nat) × Unit) × (List Near) × (List Near) × (List Near) × (List Near) × Unit) := .cons (.row (.cons 0 (.ptr 1) (.cons 1 (.ptr 2) (.cons 2 (.ptr 3) (.cons 3 (.ptr 4) (.nil)))))) (.cons (.row (.cons 0 (.int .i64) (.cons 1 (.slq 5 2) (.nil)))) (.cons (.row (.cons 0 (.int .i64) (.cons 1 (.slq 6 2) (.nil)))) (.cons (.row (.cons 0 (.int .i64) (.cons 1 (.slq 7 2) (.nil)))) (.cons (.row (.cons 0 (.int .i64) (.cons 1 (.slq 8 2) (.nil)))) (.cons (.rows En 30) (.cons (.rows En 30) (.cons (.rows En 30) (.cons (.rows En 30) (.nil)))))))))
noncomputable def mc0Z4 : ((List Near) × Int × Nat × Unit × Unit) → ((Unit × Unit × Unit × Unit × Unit) × (Int × (Nat × Nat) × Unit) × (Int × (Nat × Nat) × Unit) × (Int × (Nat × Nat) × Unit) × (Int × (Nat × Nat) × Unit) × (List Near) × (List Near) × (List Near) × (List Near) × Unit) → mc0Z := fun (l, (k, (s, ((), ())))) (((), ((), ((), ((), ())))), ((k1, (h1, ())), ((k2, (h2, ())), ((k3, (h3, ())), ((k4, (h4, ())), (m1, (m2, (m3, (m4, ()))))))))) => ((l, (k, (s, (3, ())))), (((), ((), ((), ((), ())))), ((k1, (h1, ())), ((k2, (h2, ())), ((k3, (h3, ())), ((k4, (h4, ())), (m1, (m2, (m3, (m4, ()))))))))))
noncomputable def mc0Fs : List (LForm mc0Z) := [⟨_, _, mc0Sl0, mc0Bl0, mc0Z0⟩, ⟨_, _, mc0Sl1, mc0Bl1, mc0Z1⟩, ⟨_, _, mc0Sl2, mc0Bl2, mc0Z2⟩, ⟨_, _, mc0Sl3, mc0Bl3, mc0Z3⟩, ⟨_, _, mc0Sl4, mc0Bl4, mc0Z4⟩]
noncomputable def mc0Alts (R0 : mc0Z → ((List Near) × Int × Nat × Unit) → ((Unit × Unit × Unit × Unit × Unit) × (Int × (Nat × Nat) × Unit) × (Int × (Nat × Nat) × Unit) × (Int × (Nat × Nat) × Unit) × (Int × (Nat × Nat) × Unit) × (List Near) × (List Near) × (List Near) × (List Near) × Unit) → Prop) (R1 : mc0Z → ((List Near) × Int × Nat × Unit) → ((Unit × Unit × Unit × Unit × Unit) × (Int × (Nat × Nat) × Unit) × (Int × (Nat × Nat) × Unit) × (Int × (Nat × Nat) × Unit) × (Int × Unit × Unit) × (List Near) × (List Near) × (List Near) × Unit) → Prop) : List (Alt mc0Z) := [⟨.exit 4, (List Near) × Int × Nat × Unit, (Unit × Unit × Unit × Unit × Unit) × (Int × (Nat × Nat) × Unit) × (Int × (Nat × Nat) × Unit) × (Int × (Nat × Nat) × Unit) × (Int × (Nat × Nat) × Unit) × (List Near) × (List Near) × (List Near) × (List Near) × Unit, .cons 0 (.lst En) (.cons 2 (.int .i64) (.cons 7 (.sl 0 1) (.nil))), .cons (.row (.cons 0 (.ptr 1) (.cons 1 (.ptr 2) (.cons 2 (.ptr 3) (.cons 3 (.ptr 4) (.nil)))))) (.cons (.row (.cons 0 (.int .i64) (.cons 1 (.slq 5 2) (.nil)))) (.cons (.row (.cons 0 (.int .i64) (.cons 1 (.slq 6 2) (.nil)))) (.cons (.row (.cons 0 (.int .i64) (.cons 1 (.slq 7 2) (.nil)))) (.cons (.row (.cons 0 (.int .i64) (.cons 1 (.slq 8 2) (.nil)))) (.cons (.rows En 30) (.cons (.rows En 30) (.cons (.rows En 30) (.cons (.rows En 30) (.nil))))))))), R0⟩, ⟨.exit 4, (List Near) × Int × Nat × Unit, (Unit × Unit × Unit × Unit × Unit) × (Int × (Nat × Nat) × Unit) × (Int × (Nat × Nat) × Unit) × (Int × (Nat × Nat) × Unit) × (Int × Unit × Unit) × (List Near) × (List Near) × (List Near) × Unit, .cons 0 (.lst En) (.cons 2 (.int .i64) (.cons 7 (.sl 0 1) (.nil))), .cons (.row (.cons 0 (.ptr 1) (.cons 1 (.ptr 2) (.cons 2 (.ptr 3) (.cons 3 (.ptr 4) (.nil)))))) (.cons (.row (.cons 0 (.int .i64) (.cons 1 (.slq 5 2) (.nil)))) (.cons (.row (.cons 0 (.int .i64) (.cons 1 (.slq 6 2) (.nil)))) (.cons (.row (.cons 0 (.int .i64) (.cons 1 (.slq 7 2) (.nil)))) (.cons (.row (.cons 0 (.int .i64) (.cons 1 (.nilS) (.nil)))) (.cons (.rows En 30) (.cons (.rows En 30) (.cons (.rows En 30) (.nil)))))))), R1⟩]

theorem mc0Form0 (l : List Near) (k : Int) (s : Nat) (k1 : Int) (h1 : Nat × Nat) (k2 : Int) (h2 : Nat × Nat) (k3 : Int) (h3 : Nat × Nat) (k4 : Int) (m1 : List Near) (m2 : List Near) (m3 : List Near) (N : mc0Z → Prop) (R0 : mc0Z → ((List Near) × Int × Nat × Unit) → ((Unit × Unit × Unit × Unit × Unit) × (Int × (Nat × Nat) × Unit) × (Int × (Nat × Nat) × Unit) × (Int × (Nat × Nat) × Unit) × (Int × (Nat × Nat) × Unit) × (List Near) × (List Near) × (List Near) × (List Near) × Unit) → Prop) (R1 : mc0Z → ((List Near) × Int × Nat × Unit) → ((Unit × Unit × Unit × Unit × Unit) × (Int × (Nat × Nat) × Unit) × (Int × (Nat × Nat) × Unit) × (Int × (Nat × Nat) × Unit) × (Int × Unit × Unit) × (List Near) × (List Near) × (List Near) × Unit) → Prop) : ((runW Try.prog (KLS [(16, tlistK)] [(4, [(26, mbp0C)])] 30) 100).code none 4 122 (loopBody Try.prog 4 22) (mkT (mc0Sl0.av id (l, (k, (s, ((), ())))))) [] (stL false (mc0Bl0.obs id (((), ((), ((), ((), ())))), ((k1, (h1, ())), ((k2, (h2, ())), ((k3, (h3, ())), ((k4, ((), ())), (m1, (m2, (m3, ())))))))))) (postL 0 mc0Fs (mc0Alts R0 R1) (mc0Z0 (l, (k, (s, ((), ())))) (((), ((), ((), ((), ())))), ((k1, (h1, ())), ((k2, (h2, ())), ((k3, (h3, ())), ((k4, ((), ())), (m1, (m2, (m3, ()))))))))) N)) =
  ( idxOk (Int.ofNat (1 : Nat)) s ∧ ((∃ l_1, FE m2 l_1 ∧ true = true ∧ list1Pre (((), ()), (k2, (h2.fst, h2.snd), ()), l_1, ()) ∧ (∀ c d, list1R0 (((), ()), (k2,
  (h2.fst, h2.snd), ()), l_1, ()) c d → LoopOk Try.prog (4 : FuncId) (122 : Nat) (loopBody Try.prog (4 : FuncId) (26 : Nat)).loop mbp0C ∧ (True ∧ True ∧ ((∃ l_2,
  VW l l_2 ∧ ∃ l, VW c.1 l ∧ False) ∨ ∃ l_2, VW l l_2 ∧ ∃ l, VW c.1 l ∧ ∃ l_3, FE m1 l_3 ∧ ∃ l_4, FE d.2.1 l_4 ∧ ∃ l_5, FE m3 l_5 ∧ true = true ∧ mb01Inv ((l_2,
  k, s, (), l, wrapF IntKind.i64 ((Int.ofNat c.1.length).sub (1 : Int)), ()), ((), (), (), (), ()), (k1, (h1.fst, h1.snd), ()), (d.1.1, (d.1.2.1.fst,
  d.1.2.1.snd), ()), (k3, (h3.fst, h3.snd), ()), (k4, ((0 : Nat), (0 : Nat)), ()), l_3, l_4, l_5, [], ()) ∧ (∀ c_1 d_1, mb01R0 ((l_2, k, s, (), l, wrapF
  IntKind.i64 ((Int.ofNat c.1.length).sub (1 : Int)), ()), ((), (), (), (), ()), (k1, (h1.fst, h1.snd), ()), (d.1.1, (d.1.2.1.fst, d.1.2.1.snd), ()), (k3,
  (h3.fst, h3.snd), ()), (k4, ((0 : Nat), (0 : Nat)), ()), l_3, l_4, l_5, [], ()) c_1 d_1 → True ∧ ((∃ l, VW c_1.1 l ∧ False) ∨ (∃ l, VW c_1.1 l ∧ False) ∨ (∃ l,
  VW c_1.1 l ∧ ∃ l_6, FE d_1.2.2.2.2.2.1 l_6 ∧ ∃ l_7, FE d_1.2.2.2.2.2.2.1 l_7 ∧ ∃ l_8, FE d_1.2.2.2.2.2.2.2.1 l_8 ∧ ∃ l_9, FE d_1.2.2.2.2.2.2.2.2.1 l_9 ∧ true =
  true ∧ N ((l, c_1.2.1, c_1.2.2.1, (2 : Int), ()), ((), (), (), (), ()), (d_1.2.1.1, (d_1.2.1.2.1.fst, d_1.2.1.2.1.snd), ()), (d_1.2.2.1.1, (d_1.2.2.1.2.1.fst,
  d_1.2.2.1.2.1.snd), ()), (d_1.2.2.2.1.1, (d_1.2.2.2.1.2.1.fst, d_1.2.2.2.1.2.1.snd), ()), (d_1.2.2.2.2.1.1, (d_1.2.2.2.2.1.2.1.fst, d_1.2.2.2.2.1.2.1.snd),
  ()), l_6, l_7, l_8, l_9, ())) ∨ (∃ l, VW c_1.1 l ∧ False) ∨ ∃ l, VW c_1.1 l ∧ False)) ∧ (∀ c_1 d_1, mb01R1 ((l_2, k, s, (), l, wrapF IntKind.i64 ((Int.ofNat
  c.1.length).sub (1 : Int)), ()), ((), (), (), (), ()), (k1, (h1.fst, h1.snd), ()), (d.1.1, (d.1.2.1.fst, d.1.2.1.snd), ()), (k3, (h3.fst, h3.snd), ()), (k4,
  ((0 : Nat), (0 : Nat)), ()), l_3, l_4, l_5, [], ()) c_1 d_1 → True ∧ ((∃ l, VW c_1.1 l ∧ False) ∨ (∃ l, VW c_1.1 l ∧ ∃ l_6, FE d_1.2.2.2.2.2.1 l_6 ∧ ∃ l_7, FE
  d_1.2.2.2.2.2.2.1 l_7 ∧ ∃ l_8, FE d_1.2.2.2.2.2.2.2.1 l_8 ∧ true = true ∧ N ((l, c_1.2.1, c_1.2.2.1, (2 : Int), ()), ((), (), (), (), ()), (d_1.2.1.1,
  (d_1.2.1.2.1.fst, d_1.2.1.2.1.snd), ()), (d_1.2.2.1.1, (d_1.2.2.1.2.1.fst, d_1.2.2.1.2.1.snd), ()), (d_1.2.2.2.1.1, (d_1.2.2.2.1.2.1.fst, d_1.2.2.2.1.2.1.snd),
  ()), (d_1.2.2.2.2.1.1, ((0 : Nat), (0 : Nat)), ()), l_6, l_7, l_8, [], ())) ∨ (∃ l, VW c_1.1 l ∧ False) ∨ (∃ l, VW c_1.1 l ∧ False) ∨ ∃ l, VW c_1.1 l ∧ False))
  ∧ True) ∨ True ∧ True ∧ ((∃ l_2, VW l l_2 ∧ False) ∨ ∃ l_2, VW l l_2 ∧ False))) ∧ True) ∨ False)) := by kernel_rfl

theorem mc0Form1 (l : List Near) (k : Int) (s : Nat) (k1 : Int) (h1 : Nat × Nat) (k2 : Int) (h2 : Nat × Nat) (k3 : Int) (h3 : Nat × Nat) (k4 : Int) (m1 : List Near) (m2 : List Near) (m3 : List Near) (N : mc0Z → Prop) (R0 : mc0Z → ((List Near) × Int × Nat × Unit) → ((Unit × Unit × Unit × Unit × Unit) × (Int × (Nat × Nat) × Unit) × (Int × (Nat × Nat) × Unit) × (Int × (Nat × Nat) × Unit) × (Int × (Nat × Nat) × Unit) × (List Near) × (List Near) × (List Near) × (List Near) × Unit) → Prop) (R1 : mc0Z → ((List Near) × Int × Nat × Unit) → ((Unit × Unit × Unit × Unit × Unit) × (Int × (Nat × Nat) × Unit) × (Int × (Nat × Nat) × Unit) × (Int × (Nat × Nat) × Unit) × (Int × Unit × Unit) × (List Near) × (List Near) × (List Near) × Unit) → Prop) : ((runW Try.prog (KLS [(16, tlistK)] [(4, [(26, mbp0C)])] 30) 100).code none 4 122 (loopBody Try.prog 4 22) (mkT (mc0Sl1.av id (l, (k, (s, ((), ())))))) [] (stL false (mc0Bl1.obs id (((), ((), ((), ((), ())))), ((k1, (h1, ())), ((k2, (h2, ())), ((k3, (h3, ())), ((k4, ((), ())), (m1, (m2, (m3, ())))))))))) (postL 0 mc0Fs (mc0Alts R0 R1) (mc0Z1 (l, (k, (s, ((), ())))) (((), ((), ((), ((), ())))), ((k1, (h1, ())), ((k2, (h2, ())), ((k3, (h3, ())), ((k4, ((), ())), (m1, (m2, (m3, ()))))))))) N)) =
  ( idxOk (Int.ofNat (2 : Nat)) s ∧ ((∃ l_1, FE m3 l_1 ∧ true = true ∧ list1Pre (((), ()), (k3, (h3.fst, h3.snd), ()), l_1, ()) ∧ (∀ c d, list1R0 (((), ()), (k3,
  (h3.fst, h3.snd), ()), l_1, ()) c d → LoopOk Try.prog (4 : FuncId) (122 : Nat) (loopBody Try.prog (4 : FuncId) (26 : Nat)).loop mbp0C ∧ (True ∧ True ∧ ((∃ l_2,
  VW l l_2 ∧ False) ∨ ∃ l_2, VW l l_2 ∧ False) ∨ True ∧ True ∧ ((∃ l_2, VW l l_2 ∧ ∃ l, VW c.1 l ∧ False) ∨ ∃ l_2, VW l l_2 ∧ ∃ l, VW c.1 l ∧ ∃ l_3, FE m1 l_3 ∧
  ∃ l_4, FE m2 l_4 ∧ ∃ l_5, FE d.2.1 l_5 ∧ true = true ∧ mb02Inv ((l_2, k, s, (), l, wrapF IntKind.i64 ((Int.ofNat c.1.length).sub (1 : Int)), ()), ((), (), (),
  (), ()), (k1, (h1.fst, h1.snd), ()), (k2, (h2.fst, h2.snd), ()), (d.1.1, (d.1.2.1.fst, d.1.2.1.snd), ()), (k4, ((0 : Nat), (0 : Nat)), ()), l_3, l_4, l_5, [],
  ()) ∧ (∀ c_1 d_1, mb02R0 ((l_2, k, s, (), l, wrapF IntKind.i64 ((Int.ofNat c.1.length).sub (1 : Int)), ()), ((), (), (), (), ()), (k1, (h1.fst, h1.snd), ()),
  (k2, (h2.fst, h2.snd), ()), (d.1.1, (d.1.2.1.fst, d.1.2.1.snd), ()), (k4, ((0 : Nat), (0 : Nat)), ()), l_3, l_4, l_5, [], ()) c_1 d_1 → True ∧ ((∃ l, VW c_1.1
  l ∧ False) ∨ (∃ l, VW c_1.1 l ∧ False) ∨ (∃ l, VW c_1.1 l ∧ False) ∨ (∃ l, VW c_1.1 l ∧ False) ∨ ∃ l, VW c_1.1 l ∧ ∃ l_6, FE d_1.2.2.2.2.2.1 l_6 ∧ ∃ l_7, FE
  d_1.2.2.2.2.2.2.1 l_7 ∧ ∃ l_8, FE d_1.2.2.2.2.2.2.2.1 l_8 ∧ ∃ l_9, FE d_1.2.2.2.2.2.2.2.2.1 l_9 ∧ true = true ∧ N ((l, c_1.2.1, c_1.2.2.1, (3 : Int), ()), ((),
  (), (), (), ()), (d_1.2.1.1, (d_1.2.1.2.1.fst, d_1.2.1.2.1.snd), ()), (d_1.2.2.1.1, (d_1.2.2.1.2.1.fst, d_1.2.2.1.2.1.snd), ()), (d_1.2.2.2.1.1,
  (d_1.2.2.2.1.2.1.fst, d_1.2.2.2.1.2.1.snd), ()), (d_1.2.2.2.2.1.1, (d_1.2.2.2.2.1.2.1.fst, d_1.2.2.2.2.1.2.1.snd), ()), l_6, l_7, l_8, l_9, ()))) ∧ (∀ c_1 d_1,
  mb02R1 ((l_2, k, s, (), l, wrapF IntKind.i64 ((Int.ofNat c.1.length).sub (1 : Int)), ()), ((), (), (), (), ()), (k1, (h1.fst, h1.snd), ()), (k2, (h2.fst,
  h2.snd), ()), (d.1.1, (d.1.2.1.fst, d.1.2.1.snd), ()), (k4, ((0 : Nat), (0 : Nat)), ()), l_3, l_4, l_5, [], ()) c_1 d_1 → True ∧ ((∃ l, VW c_1.1 l ∧ False) ∨
  (∃ l, VW c_1.1 l ∧ False) ∨ (∃ l, VW c_1.1 l ∧ False) ∨ (∃ l, VW c_1.1 l ∧ ∃ l_6, FE d_1.2.2.2.2.2.1 l_6 ∧ ∃ l_7, FE d_1.2.2.2.2.2.2.1 l_7 ∧ ∃ l_8, FE
  d_1.2.2.2.2.2.2.2.1 l_8 ∧ true = true ∧ N ((l, c_1.2.1, c_1.2.2.1, (3 : Int), ()), ((), (), (), (), ()), (d_1.2.1.1, (d_1.2.1.2.1.fst, d_1.2.1.2.1.snd), ()),
  (d_1.2.2.1.1, (d_1.2.2.1.2.1.fst, d_1.2.2.1.2.1.snd), ()), (d_1.2.2.2.1.1, (d_1.2.2.2.1.2.1.fst, d_1.2.2.2.1.2.1.snd), ()), (d_1.2.2.2.2.1.1, ((0 : Nat), (0 :
  Nat)), ()), l_6, l_7, l_8, [], ())) ∨ ∃ l, VW c_1.1 l ∧ False)) ∧ True))) ∧ True) ∨ False)) := by kernel_rfl

theorem mc0Form2 (l : List Near) (k : Int) (s : Nat) (k1 : Int) (h1 : Nat × Nat) (k2 : Int) (h2 : Nat × Nat) (k3 : Int) (h3 : Nat × Nat) (k4 : Int) (h4 : Nat × Nat) (m1 : List Near) (m2 : List Near) (m3 : List Near) (m4 : List Near) (N : mc0Z → Prop) (R0 : mc0Z → ((List Near) × Int × Nat × Unit) → ((Unit × Unit × Unit × Unit × Unit) × (Int × (Nat × Nat) × Unit) × (Int × (Nat × Nat) × Unit) × (Int × (Nat × Nat) × Unit) × (Int × (Nat × Nat) × Unit) × (List Near) × (List Near) × (List Near) × (List Near) × Unit) → Prop) (R1 : mc0Z → ((List Near) × Int × Nat × Unit) → ((Unit × Unit × Unit × Unit × Unit) × (Int × (Nat × Nat) × Unit) × (Int × (Nat × Nat) × Unit) × (Int × (Nat × Nat) × Unit) × (Int × Unit × Unit) × (List Near) × (List Near) × (List Near) × Unit) → Prop) : ((runW Try.prog (KLS [(16, tlistK)] [(4, [(26, mbp0C)])] 30) 100).code none 4 122 (loopBody Try.prog 4 22) (mkT (mc0Sl2.av id (l, (k, (s, ((), ())))))) [] (stL false (mc0Bl2.obs id (((), ((), ((), ((), ())))), ((k1, (h1, ())), ((k2, (h2, ())), ((k3, (h3, ())), ((k4, (h4, ())), (m1, (m2, (m3, (m4, ()))))))))))) (postL 0 mc0Fs (mc0Alts R0 R1) (mc0Z2 (l, (k, (s, ((), ())))) (((), ((), ((), ((), ())))), ((k1, (h1, ())), ((k2, (h2, ())), ((k3, (h3, ())), ((k4, (h4, ())), (m1, (m2, (m3, (m4, ())))))))))) N)) =
  ( idxOk (Int.ofNat (2 : Nat)) s ∧ ((∃ l_1, FE m3 l_1 ∧ true = true ∧ list1Pre (((), ()), (k3, (h3.fst, h3.snd), ()), l_1, ()) ∧ (∀ c d, list1R0 (((), ()), (k3,
  (h3.fst, h3.snd), ()), l_1, ()) c d → LoopOk Try.prog (4 : FuncId) (122 : Nat) (loopBody Try.prog (4 : FuncId) (26 : Nat)).loop mbp0C ∧ (True ∧ True ∧ ((∃ l_2,
  VW l l_2 ∧ False) ∨ ∃ l_2, VW l l_2 ∧ False) ∨ True ∧ True ∧ ((∃ l_2, VW l l_2 ∧ ∃ l, VW c.1 l ∧ ∃ l_3, FE m1 l_3 ∧ ∃ l_4, FE m2 l_4 ∧ ∃ l_5, FE d.2.1 l_5 ∧ ∃
  l_6, FE m4 l_6 ∧ true = true ∧ mb02Inv ((l_2, k, s, (), l, wrapF IntKind.i64 ((Int.ofNat c.1.length).sub (1 : Int)), ()), ((), (), (), (), ()), (k1, (h1.fst,
  h1.snd), ()), (k2, (h2.fst, h2.snd), ()), (d.1.1, (d.1.2.1.fst, d.1.2.1.snd), ()), (k4, (h4.fst, h4.snd), ()), l_3, l_4, l_5, l_6, ()) ∧ (∀ c_1 d_1, mb02R0
  ((l_2, k, s, (), l, wrapF IntKind.i64 ((Int.ofNat c.1.length).sub (1 : Int)), ()), ((), (), (), (), ()), (k1, (h1.fst, h1.snd), ()), (k2, (h2.fst, h2.snd),
  ()), (d.1.1, (d.1.2.1.fst, d.1.2.1.snd), ()), (k4, (h4.fst, h4.snd), ()), l_3, l_4, l_5, l_6, ()) c_1 d_1 → True ∧ ((∃ l, VW c_1.1 l ∧ False) ∨ (∃ l, VW c_1.1
  l ∧ False) ∨ (∃ l, VW c_1.1 l ∧ False) ∨ (∃ l, VW c_1.1 l ∧ False) ∨ ∃ l, VW c_1.1 l ∧ ∃ l_7, FE d_1.2.2.2.2.2.1 l_7 ∧ ∃ l_8, FE d_1.2.2.2.2.2.2.1 l_8 ∧ ∃ l_9,
  FE d_1.2.2.2.2.2.2.2.1 l_9 ∧ ∃ l_10, FE d_1.2.2.2.2.2.2.2.2.1 l_10 ∧ true = true ∧ N ((l, c_1.2.1, c_1.2.2.1, (3 : Int), ()), ((), (), (), (), ()), (d_1.2.1.1,
  (d_1.2.1.2.1.fst, d_1.2.1.2.1.snd), ()), (d_1.2.2.1.1, (d_1.2.2.1.2.1.fst, d_1.2.2.1.2.1.snd), ()), (d_1.2.2.2.1.1, (d_1.2.2.2.1.2.1.fst, d_1.2.2.2.1.2.1.snd),
  ()), (d_1.2.2.2.2.1.1, (d_1.2.2.2.2.1.2.1.fst, d_1.2.2.2.2.1.2.1.snd), ()), l_7, l_8, l_9, l_10, ()))) ∧ (∀ c_1 d_1, mb02R1 ((l_2, k, s, (), l, wrapF
  IntKind.i64 ((Int.ofNat c.1.length).sub (1 : Int)), ()), ((), (), (), (), ()), (k1, (h1.fst, h1.snd), ()), (k2, (h2.fst, h2.snd), ()), (d.1.1, (d.1.2.1.fst,
  d.1.2.1.snd), ()), (k4, (h4.fst, h4.snd), ()), l_3, l_4, l_5, l_6, ()) c_1 d_1 → True ∧ ((∃ l, VW c_1.1 l ∧ False) ∨ (∃ l, VW c_1.1 l ∧ False) ∨ (∃ l, VW c_1.1
  l ∧ False) ∨ (∃ l, VW c_1.1 l ∧ ∃ l_7, FE d_1.2.2.2.2.2.1 l_7 ∧ ∃ l_8, FE d_1.2.2.2.2.2.2.1 l_8 ∧ ∃ l_9, FE d_1.2.2.2.2.2.2.2.1 l_9 ∧ true = true ∧ N ((l,
  c_1.2.1, c_1.2.2.1, (3 : Int), ()), ((), (), (), (), ()), (d_1.2.1.1, (d_1.2.1.2.1.fst, d_1.2.1.2.1.snd), ()), (d_1.2.2.1.1, (d_1.2.2.1.2.1.fst,
  d_1.2.2.1.2.1.snd), ()), (d_1.2.2.2.1.1, (d_1.2.2.2.1.2.1.fst, d_1.2.2.2.1.2.1.snd), ()), (d_1.2.2.2.2.1.1, ((0 : Nat), (0 : Nat)), ()), l_7, l_8, l_9, [],
  ())) ∨ ∃ l, VW c_1.1 l ∧ False)) ∧ True) ∨ ∃ l_2, VW l l_2 ∧ ∃ l, VW c.1 l ∧ False))) ∧ True) ∨ False)) := by kernel_rfl

theorem mc0Form3 (l : List Near) (k : Int) (s : Nat) (k1 : Int) (h1 : Nat × Nat) (k2 : Int) (h2 : Nat × Nat) (k3 : Int) (h3 : Nat × Nat) (k4 : Int) (m1 : List Near) (m2 : List Near) (m3 : List Near) (N : mc0Z → Prop) (R0 : mc0Z → ((List Near) × Int × Nat × Unit) → ((Unit × Unit × Unit × Unit × Unit) × (Int × (Nat × Nat) × Unit) × (Int × (Nat × Nat) × Unit) × (Int × (Nat × Nat) × Unit) × (Int × (Nat × Nat) × Unit) × (List Near) × (List Near) × (List Near) × (List Near) × Unit) → Prop) (R1 : mc0Z → ((List Near) × Int × Nat × Unit) → ((Unit × Unit × Unit × Unit × Unit) × (Int × (Nat × Nat) × Unit) × (Int × (Nat × Nat) × Unit) × (Int × (Nat × Nat) × Unit) × (Int × Unit × Unit) × (List Near) × (List Near) × (List Near) × Unit) → Prop) : ((runW Try.prog (KLS [(16, tlistK)] [(4, [(26, mbp0C)])] 30) 100).code none 4 122 (loopBody Try.prog 4 22) (mkT (mc0Sl3.av id (l, (k, (s, ((), ())))))) [] (stL false (mc0Bl3.obs id (((), ((), ((), ((), ())))), ((k1, (h1, ())), ((k2, (h2, ())), ((k3, (h3, ())), ((k4, ((), ())), (m1, (m2, (m3, ())))))))))) (postL 0 mc0Fs (mc0Alts R0 R1) (mc0Z3 (l, (k, (s, ((), ())))) (((), ((), ((), ((), ())))), ((k1, (h1, ())), ((k2, (h2, ())), ((k3, (h3, ())), ((k4, ((), ())), (m1, (m2, (m3, ()))))))))) N)) =
  ( (True ∧ ∃ l_1, VW l l_1 ∧ False) ∨ True ∧ ∃ l_1, VW l l_1 ∧ ∃ l_2, FE m1 l_2 ∧ ∃ l_3, FE m2 l_3 ∧ ∃ l_4, FE m3 l_4 ∧ true = true ∧ R1 ((l, k, s, (3 : Int), ()),
  ((), (), (), (), ()), (k1, h1, ()), (k2, h2, ()), (k3, h3, ()), (k4, ((0 : Nat), (0 : Nat)), ()), m1, m2, m3, [], ()) (l_1, k, s, ()) (((), (), (), (), ()),
  (k1, (h1.fst, h1.snd), ()), (k2, (h2.fst, h2.snd), ()), (k3, (h3.fst, h3.snd), ()), (k4, (), ()), l_2, l_3, l_4, ())) := by kernel_rfl

theorem mc0Form4 (l : List Near) (k : Int) (s : Nat) (k1 : Int) (h1 : Nat × Nat) (k2 : Int) (h2 : Nat × Nat) (k3 : Int) (h3 : Nat × Nat) (k4 : Int) (h4 : Nat × Nat) (m1 : List Near) (m2 : List Near) (m3 : List Near) (m4 : List Near) (N : mc0Z → Prop) (R0 : mc0Z → ((List Near) × Int × Nat × Unit) → ((Unit × Unit × Unit × Unit × Unit) × (Int × (Nat × Nat) × Unit) × (Int × (Nat × Nat) × Unit) × (Int × (Nat × Nat) × Unit) × (Int × (Nat × Nat) × Unit) × (List Near) × (List Near) × (List Near) × (List Near) × Unit) → Prop) (R1 : mc0Z → ((List Near) × Int × Nat × Unit) → ((Unit × Unit × Unit × Unit × Unit) × (Int × (Nat × Nat) × Unit) × (Int × (Nat × Nat) × Unit) × (Int × (Nat × Nat) × Unit) × (Int × Unit × Unit) × (List Near) × (List Near) × (List Near) × Unit) → Prop) : ((runW Try.prog (KLS [(16, tlistK)] [(4, [(26, mbp0C)])] 30) 100).code none 4 122 (loopBody Try.prog 4 22) (mkT (mc0Sl4.av id (l, (k, (s, ((), ())))))) [] (stL false (mc0Bl4.obs id (((), ((), ((), ((), ())))), ((k1, (h1, ())), ((k2, (h2, ())), ((k3, (h3, ())), ((k4, (h4, ())), (m1, (m2, (m3, (m4, ()))))))))))) (postL 0 mc0Fs (mc0Alts R0 R1) (mc0Z4 (l, (k, (s, ((), ())))) (((), ((), ((), ((), ())))), ((k1, (h1, ())), ((k2, (h2, ())), ((k3, (h3, ())), ((k4, (h4, ())), (m1, (m2, (m3, (m4, ())))))))))) N)) =
  ( (True ∧ ∃ l_1, VW l l_1 ∧ ∃ l_2, FE m1 l_2 ∧ ∃ l_3, FE m2 l_3 ∧ ∃ l_4, FE m3 l_4 ∧ ∃ l_5, FE m4 l_5 ∧ true = true ∧ R0 ((l, k, s, (3 : Int), ()), ((), (), (),
  (), ()), (k1, h1, ()), (k2, h2, ()), (k3, h3, ()), (k4, h4, ()), m1, m2, m3, m4, ()) (l_1, k, s, ()) (((), (), (), (), ()), (k1, (h1.fst, h1.snd), ()), (k2,
  (h2.fst, h2.snd), ()), (k3, (h3.fst, h3.snd), ()), (k4, (h4.fst, h4.snd), ()), l_2, l_3, l_4, l_5, ())) ∨ True ∧ ∃ l_1, VW l l_1 ∧ False) := by kernel_rfl

def mc0Inv : mc0Z → Prop := fun ((l, (k, (s, (o, ())))), (((), ((), ((), ((), ())))), ((k1, (h1, ())), ((k2, (h2, ())), ((k3, (h3, ())), ((k4, (h4, ())), (m1, (m2, (m3, (m4, ())))))))))) => s = 4 ∧ l.length ≤ 150 ∧ 0 ≤ k ∧ k ≤ 150 ∧ k1 = k ∧ k2 = k ∧ k3 = k ∧ k4 = k ∧ h1 = (m1.length, m1.length) ∧ h2 = (m2.length, m2.length) ∧ h3 = (m3.length, m3.length) ∧ h4 = (m4.length, m4.length) ∧ ∃ u : Nat, MaR k l u m1 m2 m3 ∧ TopOk k m4 (topL k (McX k l u o))
def mc0Mu : mc0Z → Nat := fun ((l, (k, (s, (o, ())))), (((), ((), ((), ((), ())))), ((k1, (h1, ())), ((k2, (h2, ())), ((k3, (h3, ())), ((k4, (h4, ())), (m1, (m2, (m3, (m4, ())))))))))) => (3 - o).toNat
def mc0R0 : mc0Z → ((List Near) × Int × Nat × Unit) → ((Unit × Unit × Unit × Unit × Unit) × (Int × (Nat × Nat) × Unit) × (Int × (Nat × Nat) × Unit) × (Int × (Nat × Nat) × Unit) × (Int × (Nat × Nat) × Unit) × (List Near) × (List Near) × (List Near) × (List Near) × Unit) → Prop := fun ((l, (k, (s, (o, ())))), (((), ((), ((), ((), ())))), ((k1, (h1, ())), ((k2, (h2, ())), ((k3, (h3, ())), ((k4, (h4, ())), (m1, (m2, (m3, (m4, ())))))))))) (l2, y, s2, _) (_, (x1, g1, _), (x2, g2, _), (x3, g3, _), (x4, g4, _), n1, n2, n3, n4, _) => l2 = l ∧ y = k ∧ s2 = 4 ∧ x1 = k ∧ x4 = k ∧ 0 ≤ k ∧ k ≤ 150 ∧ l.length ≤ 150 ∧ g1 = (n1.length, n1.length) ∧ g4 = (n4.length, n4.length) ∧ TopOk k n1 (topL k l) ∧ TopOk k n4 (topL k l)
def mc0R1 : mc0Z → ((List Near) × Int × Nat × Unit) → ((Unit × Unit × Unit × Unit × Unit) × (Int × (Nat × Nat) × Unit) × (Int × (Nat × Nat) × Unit) × (Int × (Nat × Nat) × Unit) × (Int × Unit × Unit) × (List Near) × (List Near) × (List Near) × Unit) → Prop := fun ((l, (k, (s, (o, ())))), (((), ((), ((), ((), ())))), ((k1, (h1, ())), ((k2, (h2, ())), ((k3, (h3, ())), ((k4, (h4, ())), (m1, (m2, (m3, (m4, ())))))))))) (l2, y, s2, _) (_, (x1, g1, _), (x2, g2, _), (x3, g3, _), (x4, _), n1, n2, n3, _) => l2 = l ∧ y = k ∧ s2 = 4 ∧ x1 = k ∧ x4 = k ∧ 0 ≤ k ∧ k ≤ 150 ∧ l.length ≤ 150 ∧ g1 = (n1.length, n1.length) ∧ TopOk k n1 (topL k l) ∧ TopOk k [] (topL k l)
noncomputable def mc0C : LoopC := loopC 0 mc0Fs (mc0Alts mc0R0 mc0R1) mc0Inv

theorem mc0Step0 : stepsOk Try.prog (KLS [(16, tlistK)] [(4, [(26, mbp0C)])] 30) 100 4 122 (loopBody Try.prog 4 22) 0 false mc0Fs (mc0Alts mc0R0 mc0R1) mc0Inv mc0Mu ⟨_, _, mc0Sl0, mc0Bl0, mc0Z0⟩ := by
  intro x y hz
  obtain ⟨l, k, s, _, _⟩ := x
  obtain ⟨⟨_, _, _, _, _⟩, ⟨k1, h1, _⟩, ⟨k2, h2, _⟩, ⟨k3, h3, _⟩, ⟨k4, _, _⟩, m1, m2, m3, _⟩ := y
  refine (mc0Form0 l k s k1 h1 k2 h2 k3 h3 k4 m1 m2 m3 _ _ _).mpr ?_
  obtain ⟨hs, hl, k0, kle, q1, q2, q3, q4, g1, g2, g3, g4, u, hM, hT⟩ := hz
  obtain rfl : s = 4 := hs
  obtain rfl : k = k1 := q1.symm
  obtain rfl : k = k2 := q2.symm
  obtain rfl : k = k3 := q3.symm
  obtain rfl : k = k4 := q4.symm
  obtain rfl : h1 = (m1.length, m1.length) := g1
  obtain rfl : h2 = (m2.length, m2.length) := g2
  obtain rfl : h3 = (m3.length, m3.length) := g3
  have hP : TopOk k m2 (topL k (l.take u)) := hM.2.1
  have hPl := hP.len
  have hPk := hP.l
  refine ⟨⟨by decide, by decide⟩, Or.inl ⟨m2, rfl, (by first | exact trivial | exact rfl), ⟨rfl, by omega⟩, fun c d hr => ?_, trivial⟩⟩
  obtain ⟨x, _⟩ := c
  obtain ⟨⟨kx, gx, _⟩, mx, _⟩ := d
  obtain ⟨hx, hk2, hg2, hm2⟩ := hr
  obtain rfl : k = kx := hk2.symm
  obtain rfl : gx = (m2.length, m2.length) := hg2
  obtain rfl : m2 = mx := hm2.symm
  replace hx : x = topL k (l.take u) := hx.trans hP.list
  have hxl : x.length ≤ 150 := by rw [hx]; omega
  have ew : wrapF .i64 (Int.sub (Int.ofNat x.length) 1) = (x.length : Int) - 1 := by
    show wrapF .i64 (Int.sub (x.length : Int) 1) = _
    rw [wsub (by omega) (by omega)]
  refine ⟨mbp0Ok, Or.inl ⟨trivial, trivial, Or.inr ⟨l, Wk.refl _, x, Wk.refl _, m1, rfl, m2, rfl, m3, rfl, (by first | exact trivial | exact rfl), ⟨x.length, ew, Nat.le_refl _, hxl, rfl, k0, kle, rfl, rfl, rfl, rfl, rfl, rfl, rfl, rfl, _, hT⟩, fun c1 d1 hr1 => ?_, fun c1 d1 hr1 => ?_, trivial⟩⟩⟩
  · obtain ⟨l2, y, s2, _, _⟩ := c1
    obtain ⟨_, ⟨x1, g1, _⟩, ⟨x2, g2, _⟩, ⟨x3, g3, _⟩, ⟨x4, g4, _⟩, n1, n2, n3, n4, _⟩ := d1
    obtain ⟨hl2, hy, hs2, hx1, hx2, hx3, hx4, hg1, hn1, hg2, hn2, hg3, hn3, hg4, hA⟩ := hr1
    obtain rfl : l = l2 := hl2.symm
    obtain rfl : k = y := hy.symm
    obtain rfl : s2 = 4 := hs2
    obtain rfl : k = x1 := hx1.symm
    obtain rfl : k = x2 := hx2.symm
    obtain rfl : k = x3 := hx3.symm
    obtain rfl : k = x4 := hx4.symm
    obtain rfl : m1 = n1 := hn1.symm
    obtain rfl : g1 = (m1.length, m1.length) := hg1
    obtain rfl : m2 = n2 := hn2.symm
    obtain rfl : g2 = (m2.length, m2.length) := hg2
    obtain rfl : m3 = n3 := hn3.symm
    obtain rfl : g3 = (m3.length, m3.length) := hg3
    obtain rfl : g4 = (n4.length, n4.length) := hg4
    have hB := hA _ hT
    rw [ew, show ((x.length : Int) - 1 + 1).toNat = x.length by omega, List.take_length, hx] at hB
    exact ⟨trivial, Or.inr (Or.inr (Or.inl ⟨l, Wk.refl _, m1, rfl, m2, rfl, m3, rfl, n4, rfl, (by first | exact trivial | exact rfl), ⟨rfl, hl, k0, kle, rfl, rfl, rfl, rfl, rfl, rfl, rfl, rfl, u, hM, hB⟩, by show (3 - (2 : Int)).toNat < (3 - (1 : Int)).toNat; decide, fun _ _ h => h, fun _ _ h => h, trivial⟩))⟩
  · obtain ⟨l2, y, s2, _, _⟩ := c1
    obtain ⟨_, ⟨x1, g1, _⟩, ⟨x2, g2, _⟩, ⟨x3, g3, _⟩, ⟨x4, _⟩, n1, n2, n3, _⟩ := d1
    obtain ⟨hl2, hy, hs2, hx1, hx2, hx3, hx4, hg1, hn1, hg2, hn2, hg3, hn3, hA⟩ := hr1
    obtain rfl : l = l2 := hl2.symm
    obtain rfl : k = y := hy.symm
    obtain rfl : s2 = 4 := hs2
    obtain rfl : k = x1 := hx1.symm
    obtain rfl : k = x2 := hx2.symm
    obtain rfl : k = x3 := hx3.symm
    obtain rfl : k = x4 := hx4.symm
    obtain rfl : m1 = n1 := hn1.symm
    obtain rfl : g1 = (m1.length, m1.length) := hg1
    obtain rfl : m2 = n2 := hn2.symm
    obtain rfl : g2 = (m2.length, m2.length) := hg2
    obtain rfl : m3 = n3 := hn3.symm
    obtain rfl : g3 = (m3.length, m3.length) := hg3
    have hB := hA _ hT
    rw [ew, show ((x.length : Int) - 1 + 1).toNat = x.length by omega, List.take_length, hx] at hB
    exact ⟨trivial, Or.inr (Or.inl ⟨l, Wk.refl _, m1, rfl, m2, rfl, m3, rfl, (by first | exact trivial | exact rfl), ⟨rfl, hl, k0, kle, rfl, rfl, rfl, rfl, rfl, rfl, rfl, rfl, u, hM, hB⟩, by show (3 - (2 : Int)).toNat < (3 - (1 : Int)).toNat; decide, fun _ _ h => h, fun _ _ h => h, trivial⟩)⟩
theorem mc0Step1 : stepsOk Try.prog (KLS [(16, tlistK)] [(4, [(26, mbp0C)])] 30) 100 4 122 (loopBody Try.prog 4 22) 0 false mc0Fs (mc0Alts mc0R0 mc0R1) mc0Inv mc0Mu ⟨_, _, mc0Sl1, mc0Bl1, mc0Z1⟩ := by
  intro x y hz
  obtain ⟨l, k, s, _, _⟩ := x
  obtain ⟨⟨_, _, _, _, _⟩, ⟨k1, h1, _⟩, ⟨k2, h2, _⟩, ⟨k3, h3, _⟩, ⟨k4, _, _⟩, m1, m2, m3, _⟩ := y
  refine (mc0Form1 l k s k1 h1 k2 h2 k3 h3 k4 m1 m2 m3 _ _ _).mpr ?_
  obtain ⟨hs, hl, k0, kle, q1, q2, q3, q4, g1, g2, g3, g4, u, hM, hT⟩ := hz
  obtain rfl : s = 4 := hs
  obtain rfl : k = k1 := q1.symm
  obtain rfl : k = k2 := q2.symm
  obtain rfl : k = k3 := q3.symm
  obtain rfl : k = k4 := q4.symm
  obtain rfl : h1 = (m1.length, m1.length) := g1
  obtain rfl : h2 = (m2.length, m2.length) := g2
  obtain rfl : h3 = (m3.length, m3.length) := g3
  have hP : TopOk k m3 (topL k (l.drop u)) := hM.2.2
  have hPl := hP.len
  have hPk := hP.l
  refine ⟨⟨by decide, by decide⟩, Or.inl ⟨m3, rfl, (by first | exact trivial | exact rfl), ⟨rfl, by omega⟩, fun c d hr => ?_, trivial⟩⟩
  obtain ⟨x, _⟩ := c
  obtain ⟨⟨kx, gx, _⟩, mx, _⟩ := d
  obtain ⟨hx, hk2, hg2, hm2⟩ := hr
  obtain rfl : k = kx := hk2.symm
  obtain rfl : gx = (m3.length, m3.length) := hg2
  obtain rfl : m3 = mx := hm2.symm
  replace hx : x = topL k (l.drop u) := hx.trans hP.list
  have hxl : x.length ≤ 150 := by rw [hx]; omega
  have ew : wrapF .i64 (Int.sub (Int.ofNat x.length) 1) = (x.length : Int) - 1 := by
    show wrapF .i64 (Int.sub (x.length : Int) 1) = _
    rw [wsub (by omega) (by omega)]
  refine ⟨mbp0Ok, Or.inr ⟨trivial, trivial, Or.inr ⟨l, Wk.refl _, x, Wk.refl _, m1, rfl, m2, rfl, m3, rfl, (by first | exact trivial | exact rfl), ⟨x.length, ew, Nat.le_refl _, hxl, rfl, k0, kle, rfl, rfl, rfl, rfl, rfl, rfl, rfl, rfl, _, hT⟩, fun c1 d1 hr1 => ?_, fun c1 d1 hr1 => ?_, trivial⟩⟩⟩
  · obtain ⟨l2, y, s2, _, _⟩ := c1
    obtain ⟨_, ⟨x1, g1, _⟩, ⟨x2, g2, _⟩, ⟨x3, g3, _⟩, ⟨x4, g4, _⟩, n1, n2, n3, n4, _⟩ := d1
    obtain ⟨hl2, hy, hs2, hx1, hx2, hx3, hx4, hg1, hn1, hg2, hn2, hg3, hn3, hg4, hA⟩ := hr1
    obtain rfl : l = l2 := hl2.symm
    obtain rfl : k = y := hy.symm
    obtain rfl : s2 = 4 := hs2
    obtain rfl : k = x1 := hx1.symm
    obtain rfl : k = x2 := hx2.symm
    obtain rfl : k = x3 := hx3.symm
    obtain rfl : k = x4 := hx4.symm
    obtain rfl : m1 = n1 := hn1.symm
    obtain rfl : g1 = (m1.length, m1.length) := hg1
    obtain rfl : m2 = n2 := hn2.symm
    obtain rfl : g2 = (m2.length, m2.length) := hg2
    obtain rfl : m3 = n3 := hn3.symm
    obtain rfl : g3 = (m3.length, m3.length) := hg3
    obtain rfl : g4 = (n4.length, n4.length) := hg4
    have hB := hA _ hT
    rw [ew, show ((x.length : Int) - 1 + 1).toNat = x.length by omega, List.take_length, hx] at hB
    exact ⟨trivial, Or.inr (Or.inr (Or.inr (Or.inr ⟨l, Wk.refl _, m1, rfl, m2, rfl, m3, rfl, n4, rfl, (by first | exact trivial | exact rfl), ⟨rfl, hl, k0, kle, rfl, rfl, rfl, rfl, rfl, rfl, rfl, rfl, u, hM, hB⟩, by show (3 - (3 : Int)).toNat < (3 - (2 : Int)).toNat; decide, fun _ _ h => h, fun _ _ h => h, trivial⟩)))⟩
  · obtain ⟨l2, y, s2, _, _⟩ := c1
    obtain ⟨_, ⟨x1, g1, _⟩, ⟨x2, g2, _⟩, ⟨x3, g3, _⟩, ⟨x4, _⟩, n1, n2, n3, _⟩ := d1
    obtain ⟨hl2, hy, hs2, hx1, hx2, hx3, hx4, hg1, hn1, hg2, hn2, hg3, hn3, hA⟩ := hr1
    obtain rfl : l = l2 := hl2.symm
    obtain rfl : k = y := hy.symm
    obtain rfl : s2 = 4 := hs2
    obtain rfl : k = x1 := hx1.symm
    obtain rfl : k = x2 := hx2.symm
    obtain rfl : k = x3 := hx3.symm
    obtain rfl : k = x4 := hx4.symm
    obtain rfl : m1 = n1 := hn1.symm
    obtain rfl : g1 = (m1.length, m1.length) := hg1
    obtain rfl : m2 = n2 := hn2.symm
    obtain rfl : g2 = (m2.length, m2.length) := hg2
    obtain rfl : m3 = n3 := hn3.symm
    obtain rfl : g3 = (m3.length, m3.length) := hg3
    have hB := hA _ hT
    rw [ew, show ((x.length : Int) - 1 + 1).toNat = x.length by omega, List.take_length, hx] at hB
    exact ⟨trivial, Or.inr (Or.inr (Or.inr (Or.inl ⟨l, Wk.refl _, m1, rfl, m2, rfl, m3, rfl, (by first | exact trivial | exact rfl), ⟨rfl, hl, k0, kle, rfl, rfl, rfl, rfl, rfl, rfl, rfl, rfl, u, hM, hB⟩, by show (3 - (3 : Int)).toNat < (3 - (2 : Int)).toNat; decide, fun _ _ h => h, fun _ _ h => h, trivial⟩)))⟩
theorem mc0Step2 : stepsOk Try.prog (KLS [(16, tlistK)] [(4, [(26, mbp0C)])] 30) 100 4 122 (loopBody Try.prog 4 22) 0 false mc0Fs (mc0Alts mc0R0 mc0R1) mc0Inv mc0Mu ⟨_, _, mc0Sl2, mc0Bl2, mc0Z2⟩ := by
  intro x y hz
  obtain ⟨l, k, s, _, _⟩ := x
  obtain ⟨⟨_, _, _, _, _⟩, ⟨k1, h1, _⟩, ⟨k2, h2, _⟩, ⟨k3, h3, _⟩, ⟨k4, h4, _⟩, m1, m2, m3, m4, _⟩ := y
  refine (mc0Form2 l k s k1 h1 k2 h2 k3 h3 k4 h4 m1 m2 m3 m4 _ _ _).mpr ?_
  obtain ⟨hs, hl, k0, kle, q1, q2, q3, q4, g1, g2, g3, g4, u, hM, hT⟩ := hz
  obtain rfl : s = 4 := hs
  obtain rfl : k = k1 := q1.symm
  obtain rfl : k = k2 := q2.symm
  obtain rfl : k = k3 := q3.symm
  obtain rfl : k = k4 := q4.symm
  obtain rfl : h1 = (m1.length, m1.length) := g1
  obtain rfl : h2 = (m2.length, m2.length) := g2
  obtain rfl : h3 = (m3.length, m3.length) := g3
  obtain rfl : h4 = (m4.length, m4.length) := g4
  have hP : TopOk k m3 (topL k (l.drop u)) := hM.2.2
  have hPl := hP.len
  have hPk := hP.l
  refine ⟨⟨by decide, by decide⟩, Or.inl ⟨m3, rfl, (by first | exact trivial | exact rfl), ⟨rfl, by omega⟩, fun c d hr => ?_, trivial⟩⟩
  obtain ⟨x, _⟩ := c
  obtain ⟨⟨kx, gx, _⟩, mx, _⟩ := d
  obtain ⟨hx, hk2, hg2, hm2⟩ := hr
  obtain rfl : k = kx := hk2.symm
  obtain rfl : gx = (m3.length, m3.length) := hg2
  obtain rfl : m3 = mx := hm2.symm
  replace hx : x = topL k (l.drop u) := hx.trans hP.list
  have hxl : x.length ≤ 150 := by rw [hx]; omega
  have ew : wrapF .i64 (Int.sub (Int.ofNat x.length) 1) = (x.length : Int) - 1 := by
    show wrapF .i64 (Int.sub (x.length : Int) 1) = _
    rw [wsub (by omega) (by omega)]
  refine ⟨mbp0Ok, Or.inr ⟨trivial, trivial, Or.inl ⟨l, Wk.refl _, x, Wk.refl _, m1, rfl, m2, rfl, m3, rfl, m4, rfl, (by first | exact trivial | exact rfl), ⟨x.length, ew, Nat.le_refl _, hxl, rfl, k0, kle, rfl, rfl, rfl, rfl, rfl, rfl, rfl, rfl, _, hT⟩, fun c1 d1 hr1 => ?_, fun c1 d1 hr1 => ?_, trivial⟩⟩⟩
  · obtain ⟨l2, y, s2, _, _⟩ := c1
    obtain ⟨_, ⟨x1, g1, _⟩, ⟨x2, g2, _⟩, ⟨x3, g3, _⟩, ⟨x4, g4, _⟩, n1, n2, n3, n4, _⟩ := d1
    obtain ⟨hl2, hy, hs2, hx1, hx2, hx3, hx4, hg1, hn1, hg2, hn2, hg3, hn3, hg4, hA⟩ := hr1
    obtain rfl : l = l2 := hl2.symm
    obtain rfl : k = y := hy.symm
    obtain rfl : s2 = 4 := hs2
    obtain rfl : k = x1 := hx1.symm
    obtain rfl : k = x2 := hx2.symm
    obtain rfl : k = x3 := hx3.symm
    obtain rfl : k = x4 := hx4.symm
    obtain rfl : m1 = n1 := hn1.symm
    obtain rfl : g1 = (m1.length, m1.length) := hg1
    obtain rfl : m2 = n2 := hn2.symm
    obtain rfl : g2 = (m2.length, m2.length) := hg2
    obtain rfl : m3 = n3 := hn3.symm
    obtain rfl : g3 = (m3.length, m3.length) := hg3
    obtain rfl : g4 = (n4.length, n4.length) := hg4
    have hB := hA _ hT
    rw [ew, show ((x.length : Int) - 1 + 1).toNat = x.length by omega, List.take_length, hx] at hB
    exact ⟨trivial, Or.inr (Or.inr (Or.inr (Or.inr ⟨l, Wk.refl _, m1, rfl, m2, rfl, m3, rfl, n4, rfl, (by first | exact trivial | exact rfl), ⟨rfl, hl, k0, kle, rfl, rfl, rfl, rfl, rfl, rfl, rfl, rfl, u, hM, hB⟩, by show (3 - (3 : Int)).toNat < (3 - (2 : Int)).toNat; decide, fun _ _ h => h, fun _ _ h => h, trivial⟩)))⟩
  · obtain ⟨l2, y, s2, _, _⟩ := c1
    obtain ⟨_, ⟨x1, g1, _⟩, ⟨x2, g2, _⟩, ⟨x3, g3, _⟩, ⟨x4, _⟩, n1, n2, n3, _⟩ := d1
    obtain ⟨hl2, hy, hs2, hx1, hx2, hx3, hx4, hg1, hn1, hg2, hn2, hg3, hn3, hA⟩ := hr1
    obtain rfl : l = l2 := hl2.symm
    obtain rfl : k = y := hy.symm
    obtain rfl : s2 = 4 := hs2
    obtain rfl : k = x1 := hx1.symm
    obtain rfl : k = x2 := hx2.symm
    obtain rfl : k = x3 := hx3.symm
    obtain rfl : k = x4 := hx4.symm
    obtain rfl : m1 = n1 := hn1.symm
    obtain rfl : g1 = (m1.length, m1.length) := hg1
    obtain rfl : m2 = n2 := hn2.symm
    obtain rfl : g2 = (m2.length, m2.length) := hg2
    obtain rfl : m3 = n3 := hn3.symm
    obtain rfl : g3 = (m3.length, m3.length) := hg3
    have hB := hA _ hT
    rw [ew, show ((x.length : Int) - 1 + 1).toNat = x.length by omega, List.take_length, hx] at hB
    exact ⟨trivial, Or.inr (Or.inr (Or.inr (Or.inl ⟨l, Wk.refl _, m1, rfl, m2, rfl, m3, rfl, (by first | exact trivial | exact rfl), ⟨rfl, hl, k0, kle, rfl, rfl, rfl, rfl, rfl, rfl, rfl, rfl, u, hM, hB⟩, by show (3 - (3 : Int)).toNat < (3 - (2 : Int)).toNat; decide, fun _ _ h => h, fun _ _ h => h, trivial⟩)))⟩
theorem mc0Step3 : stepsOk Try.prog (KLS [(16, tlistK)] [(4, [(26, mbp0C)])] 30) 100 4 122 (loopBody Try.prog 4 22) 0 false mc0Fs (mc0Alts mc0R0 mc0R1) mc0Inv mc0Mu ⟨_, _, mc0Sl3, mc0Bl3, mc0Z3⟩ := by
  intro x y hz
  obtain ⟨l, k, s, _, _⟩ := x
  obtain ⟨⟨_, _, _, _, _⟩, ⟨k1, h1, _⟩, ⟨k2, h2, _⟩, ⟨k3, h3, _⟩, ⟨k4, _, _⟩, m1, m2, m3, _⟩ := y
  refine (mc0Form3 l k s k1 h1 k2 h2 k3 h3 k4 m1 m2 m3 _ _ _).mpr ?_
  obtain ⟨hs, hl, k0, kle, q1, q2, q3, q4, g1, g2, g3, g4, u, hM, hT⟩ := hz
  obtain rfl : s = 4 := hs
  obtain rfl : k = k1 := q1.symm
  obtain rfl : k = k2 := q2.symm
  obtain rfl : k = k3 := q3.symm
  obtain rfl : k = k4 := q4.symm
  obtain rfl : h1 = (m1.length, m1.length) := g1
  obtain rfl : h2 = (m2.length, m2.length) := g2
  obtain rfl : h3 = (m3.length, m3.length) := g3
  have hT2 : TopOk k [] (topL k (([] ++ (topL k (l.take u)).reverse) ++ (topL k (l.drop u)).reverse)) := hT
  rw [top_parts] at hT2
  exact Or.inr ⟨trivial, l, Wk.refl _, m1, rfl, m2, rfl, m3, rfl, (by first | exact trivial | exact rfl), rfl, rfl, rfl, rfl, rfl, k0, kle, hl, rfl, hM.1, hT2⟩
theorem mc0Step4 : stepsOk Try.prog (KLS [(16, tlistK)] [(4, [(26, mbp0C)])] 30) 100 4 122 (loopBody Try.prog 4 22) 0 false mc0Fs (mc0Alts mc0R0 mc0R1) mc0Inv mc0Mu ⟨_, _, mc0Sl4, mc0Bl4, mc0Z4⟩ := by
  intro x y hz
  obtain ⟨l, k, s, _, _⟩ := x
  obtain ⟨⟨_, _, _, _, _⟩, ⟨k1, h1, _⟩, ⟨k2, h2, _⟩, ⟨k3, h3, _⟩, ⟨k4, h4, _⟩, m1, m2, m3, m4, _⟩ := y
  refine (mc0Form4 l k s k1 h1 k2 h2 k3 h3 k4 h4 m1 m2 m3 m4 _ _ _).mpr ?_
  obtain ⟨hs, hl, k0, kle, q1, q2, q3, q4, g1, g2, g3, g4, u, hM, hT⟩ := hz
  obtain rfl : s = 4 := hs
  obtain rfl : k = k1 := q1.symm
  obtain rfl : k = k2 := q2.symm
  obtain rfl : k = k3 := q3.symm
  obtain rfl : k = k4 := q4.symm
  obtain rfl : h1 = (m1.length, m1.length) := g1
  obtain rfl : h2 = (m2.length, m2.length) := g2
  obtain rfl : h3 = (m3.length, m3.length) := g3
  obtain rfl : h4 = (m4.length, m4.length) := g4
  have hT2 : TopOk k m4 (topL k (([] ++ (topL k (l.take u)).reverse) ++ (topL k (l.drop u)).reverse)) := hT
  rw [top_parts] at hT2
  exact Or.inl ⟨trivial, l, Wk.refl _, m1, rfl, m2, rfl, m3, rfl, m4, rfl, (by first | exact trivial | exact rfl), rfl, rfl, rfl, rfl, rfl, k0, kle, hl, rfl, rfl, hM.1, hT2⟩
theorem mc0Ok : LoopOk Try.prog 4 122 (.loop (loopBody Try.prog 4 22)) mc0C := loop_ok mc0Mu mixed (KLS_ok (cc_cons tlistCc (cc_nil))) rfl (steps_cons mc0Step0 (steps_cons mc0Step1 (steps_cons mc0Step2 (steps_cons mc0Step3 (steps_cons mc0Step4 (steps_nil))))))

/-! The loop mc1 of wayfinder/wayfinderlaw04.RankMerges. -/
abbrev mc1Z := ((List Near) × Int × Nat × Int × Unit) × ((Unit × Unit × Unit × Unit × Unit) × (Int × Unit × Unit) × (Int × Unit × Unit) × (Int × Unit × Unit) × (Int × (Nat × Nat) × Unit) × (List Near) × Unit)
noncomputable def mc1Sl : Tel ((List Near) × Int × Nat × Int × Unit) := .cons 0 (.lst En) (.cons 2 (.int .i64) (.cons 7 (.sl 0 1) (.cons 12 (.int .i64) (.nil))))
noncomputable def mc1Bl : BTel ((Unit × Unit × Unit × Unit × Unit) × (Int × Unit × Unit) × (Int × Unit × Unit) × (Int × Unit × Unit) × (Int × (Nat × Nat) × Unit) × (List Near) × Unit) := .cons (.row (.cons 0 (.ptr 1) (.cons 1 (.ptr 2) (.cons 2 (.ptr 3) (.cons 3 (.ptr 4) (.nil)))))) (.cons (.row (.cons 0 (.int .i64) (.cons 1 (.nilS) (.nil)))) (.cons (.row (.cons 0 (.int .i64) (.cons 1 (.nilS) (.nil)))) (.cons (.row (.cons 0 (.int .i64) (.cons 1 (.nilS) (.nil)))) (.cons (.row (.cons 0 (.int .i64) (.cons 1 (.slq 5 2) (.nil)))) (.cons (.rows En 30) (.nil))))))
noncomputable def mc1Sl0 : Tel ((List Near) × Int × Nat × Unit × Unit) := .cons 0 (.lst En) (.cons 2 (.int .i64) (.cons 7 (.sl 0 1) (.cons 12 (.num .i64 1) (.nil))))
noncomputable def mc1Bl0 : BTel ((Unit × Unit × Unit × Unit × Unit) × (Int × Unit × Unit) × (Int × Unit × Unit) × (Int × Unit × Unit) × (Int × Unit × Unit) × Unit) := .cons (.row (.cons 0 (.ptr 1) (.cons 1 (.ptr 2) (.cons 2 (.ptr 3) (.cons 3 (.ptr 4) (.nil)))))) (.cons (.row (.cons 0 (.int .i64) (.cons 1 (.nilS) (.nil)))) (.cons (.row (.cons 0 (.int .i64) (.cons 1 (.nilS) (.nil)))) (.cons (.row (.cons 0 (.int .i64) (.cons 1 (.nilS) (.nil)))) (.cons (.row (.cons 0 (.int .i64) (.cons 1 (.nilS) (.nil)))) (.nil)))))
noncomputable def mc1Z0 : ((List Near) × Int × Nat × Unit × Unit) → ((Unit × Unit × Unit × Unit × Unit) × (Int × Unit × Unit) × (Int × Unit × Unit) × (Int × Unit × Unit) × (Int × Unit × Unit) × Unit) → mc1Z := fun (l, (k, (s, ((), ())))) (((), ((), ((), ((), ())))), ((k1, ((), ())), ((k2, ((), ())), ((k3, ((), ())), ((k4, ((), ())), ()))))) => ((l, (k, (s, (1, ())))), (((), ((), ((), ((), ())))), ((k1, ((), ())), ((k2, ((), ())), ((k3, ((), ())), ((k4, ((0, 0), ())), ([], ())))))))
noncomputable def mc1Sl1 : Tel ((List Near) × Int × Nat × Unit × Unit) := .cons 0 (.lst En) (.cons 2 (.int .i64) (.cons 7 (.sl 0 1) (.cons 12 (.num .i64 2) (.nil))))
noncomputable def mc1Bl1 : BTel ((Unit × Unit × Unit × Unit × Unit) × (Int × Unit × Unit) × (Int × Unit × Unit) × (Int × Unit × Unit) × (Int × Unit × Unit) × Unit) := .cons (.row (.cons 0 (.ptr 1) (.cons 1 (.ptr 2) (.cons 2 (.ptr 3) (.cons 3 (.ptr 4) (.nil)))))) (.cons (.row (.cons 0 (.int .i64) (.cons 1 (.nilS) (.nil)))) (.cons (.row (.cons 0 (.int .i64) (.cons 1 (.nilS) (.nil)))) (.cons (.row (.cons 0 (.int .i64) (.cons 1 (.nilS) (.nil)))) (.cons (.row (.cons 0 (.int .i64) (.cons 1 (.nilS) (.nil)))) (.nil)))))
noncomputable def mc1Z1 : ((List Near) × Int × Nat × Unit × Unit) → ((Unit × Unit × Unit × Unit × Unit) × (Int × Unit × Unit) × (Int × Unit × Unit) × (Int × Unit × Unit) × (Int × Unit × Unit) × Unit) → mc1Z := fun (l, (k, (s, ((), ())))) (((), ((), ((), ((), ())))), ((k1, ((), ())), ((k2, ((), ())), ((k3, ((), ())), ((k4, ((), ())), ()))))) => ((l, (k, (s, (2, ())))), (((), ((), ((), ((), ())))), ((k1, ((), ())), ((k2, ((), ())), ((k3, ((), ())), ((k4, ((0, 0), ())), ([], ())))))))
noncomputable def mc1Sl2 : Tel ((List Near) × Int × Nat × Unit × Unit) := .cons 0 (.lst En) (.cons 2 (.int .i64) (.cons 7 (.sl 0 1) (.cons 12 (.num .i64 2) (.nil))))
noncomputable def mc1Bl2 : BTel ((Unit × Unit × Unit × Unit × Unit) × (Int × Unit × Unit) × (Int × Unit × Unit) × (Int × Unit × Unit) × (Int × (Nat × Nat) × Unit) × (List Near) × Unit) := .cons (.row (.cons 0 (.ptr 1) (.cons 1 (.ptr 2) (.cons 2 (.ptr 3) (.cons 3 (.ptr 4) (.nil)))))) (.cons (.row (.cons 0 (.int .i64) (.cons 1 (.nilS) (.nil)))) (.cons (.row (.cons 0 (.int .i64) (.cons 1 (.nilS) (.nil)))) (.cons (.row (.cons 0 (.int .i64) (.cons 1 (.nilS) (.nil)))) (.cons (.row (.cons 0 (.int .i64) (.cons 1 (.slq 5 2) (.nil)))) (.cons (.rows En 30) (.nil))))))
noncomputable def mc1Z2 : ((List Near) × Int × Nat × Unit × Unit) → ((Unit × Unit × Unit × Unit × Unit) × (Int × Unit × Unit) × (Int × Unit × Unit) × (Int × Unit × Unit) × (Int × (Nat × Nat) × Unit) × (List Near) × Unit) → mc1Z := fun (l, (k, (s, ((), ())))) (((), ((), ((), ((), ())))), ((k1, ((), ())), ((k2, ((), ())), ((k3, ((), ())), ((k4, (h4, ())), (m4, ())))))) => ((l, (k, (s, (2, ())))), (((), ((), ((), ((), ())))), ((k1, ((), ())), ((k2, ((), ())), ((k3, ((), ())), ((k4, (h4, ())), (m4, ())))))))
noncomputable def mc1Sl3 : Tel ((List Near) × Int × Nat × Unit × Unit) := .cons 0 (.lst En) (.cons 2 (.int .i64) (.cons 7 (.sl 0 1) (.cons 12 (.num .i64 3) (.nil))))
noncomputable def mc1Bl3 : BTel ((Unit × Unit × Unit × Unit × Unit) × (Int × Unit × Unit) × (Int × Unit × Unit) × (Int × Unit × Unit) × (Int × Unit × Unit) × Unit) := .cons (.row (.cons 0 (.ptr 1) (.cons 1 (.ptr 2) (.cons 2 (.ptr 3) (.cons 3 (.ptr 4) (.nil)))))) (.cons (.row (.cons 0 (.int .i64) (.cons 1 (.nilS) (.nil)))) (.cons (.row (.cons 0 (.int .i64) (.cons 1 (.nilS) (.nil)))) (.cons (.row (.cons 0 (.int .i64) (.cons 1 (.nilS) (.nil)))) (.cons (.row (.cons 0 (.int .i64) (.cons 1 (.nilS) (.nil)))) (.nil)))))
noncomputable def mc1Z3 : ((List Near) × Int × Nat × Unit × Unit) → ((Unit × Unit × Unit × Unit × Unit) × (Int × Unit × Unit) × (Int × Unit × Unit) × (Int × Unit × Unit) × (Int × Unit × Unit) × Unit) → mc1Z := fun (l, (k, (s, ((), ())))) (((), ((), ((), ((), ())))), ((k1, ((), ())), ((k2, ((), ())), ((k3, ((), ())), ((k4, ((), ())), ()))))) => ((l, (k, (s, (3, ())))), (((), ((), ((), ((), ())))), ((k1, ((), ())), ((k2, ((), ())), ((k3, ((), ())), ((k4, ((0, 0), ())), ([], ())))))))
noncomputable def mc1Sl4 : Tel ((List Near) × Int × Nat × Unit × Unit) := .cons 0 (.lst En) (.cons 2 (.int .i64) (.cons 7 (.sl 0 1) (.cons 12 (.num .i64 3) (.nil))))
noncomputable def mc1Bl4 : BTel ((Unit × Unit × Unit × Unit × Unit) × (Int × Unit × Unit) × (Int × Unit × Unit) × (Int × Unit × Unit) × (Int × (Nat × Nat) × Unit) × (List Near) × Unit) := .cons (.row (.cons 0 (.ptr 1) (.cons 1 (.ptr 2) (.cons 2 (.ptr 3) (.cons 3 (.ptr 4) (.nil)))))) (.cons (.row (.cons 0 (.int .i64) (.cons 1 (.nilS) (.nil)))) (.cons (.row (.cons 0 (.int .i64) (.cons 1 (.nilS) (.nil)))) (.cons (.row (.cons 0 (.int .i64) (.cons 1 (.nilS) (.nil)))) (.cons (.row (.cons 0 (.int .i64) (.cons 1 (.slq 5 2) (.nil)))) (.cons (.rows En 30) (.nil))))))
noncomputable def mc1Z4 : ((List Near) × Int × Nat × Unit × Unit) → ((Unit × Unit × Unit × Unit × Unit) × (Int × Unit × Unit) × (Int × Unit × Unit) × (Int × Unit × Unit) × (Int × (Nat × Nat) × Unit) × (List Near) × Unit) → mc1Z := fun (l, (k, (s, ((), ())))) (((), ((), ((), ((), ())))), ((k1, ((), ())), ((k2, ((), ())), ((k3, ((), ())), ((k4, (h4, ())), (m4, ())))))) => ((l, (k, (s, (3, ())))), (((), ((), ((), ((), ())))), ((k1, ((), ())), ((k2, ((), ())), ((k3, ((), ())), ((k4, (h4, ())), (m4, ())))))))
noncomputable def mc1Fs : List (LForm mc1Z) := [⟨_, _, mc1Sl0, mc1Bl0, mc1Z0⟩, ⟨_, _, mc1Sl1, mc1Bl1, mc1Z1⟩, ⟨_, _, mc1Sl2, mc1Bl2, mc1Z2⟩, ⟨_, _, mc1Sl3, mc1Bl3, mc1Z3⟩, ⟨_, _, mc1Sl4, mc1Bl4, mc1Z4⟩]
noncomputable def mc1Alts (R0 : mc1Z → ((List Near) × Int × Nat × Unit) → ((Unit × Unit × Unit × Unit × Unit) × (Int × Unit × Unit) × (Int × Unit × Unit) × (Int × Unit × Unit) × (Int × (Nat × Nat) × Unit) × (List Near) × Unit) → Prop) (R1 : mc1Z → ((List Near) × Int × Nat × Unit) → ((Unit × Unit × Unit × Unit × Unit) × (Int × Unit × Unit) × (Int × Unit × Unit) × (Int × Unit × Unit) × (Int × Unit × Unit) × Unit) → Prop) : List (Alt mc1Z) := [⟨.exit 4, (List Near) × Int × Nat × Unit, (Unit × Unit × Unit × Unit × Unit) × (Int × Unit × Unit) × (Int × Unit × Unit) × (Int × Unit × Unit) × (Int × (Nat × Nat) × Unit) × (List Near) × Unit, .cons 0 (.lst En) (.cons 2 (.int .i64) (.cons 7 (.sl 0 1) (.nil))), .cons (.row (.cons 0 (.ptr 1) (.cons 1 (.ptr 2) (.cons 2 (.ptr 3) (.cons 3 (.ptr 4) (.nil)))))) (.cons (.row (.cons 0 (.int .i64) (.cons 1 (.nilS) (.nil)))) (.cons (.row (.cons 0 (.int .i64) (.cons 1 (.nilS) (.nil)))) (.cons (.row (.cons 0 (.int .i64) (.cons 1 (.nilS) (.nil)))) (.cons (.row (.cons 0 (.int .i64) (.cons 1 (.slq 5 2) (.nil)))) (.cons (.rows En 30) (.nil)))))), R0⟩, ⟨.exit 4, (List Near) × Int × Nat × Unit, (Unit × Unit × Unit × Unit × Unit) × (Int × Unit × Unit) × (Int × Unit × Unit) × (Int × Unit × Unit) × (Int × Unit × Unit) × Unit, .cons 0 (.lst En) (.cons 2 (.int .i64) (.cons 7 (.sl 0 1) (.nil))), .cons (.row (.cons 0 (.ptr 1) (.cons 1 (.ptr 2) (.cons 2 (.ptr 3) (.cons 3 (.ptr 4) (.nil)))))) (.cons (.row (.cons 0 (.int .i64) (.cons 1 (.nilS) (.nil)))) (.cons (.row (.cons 0 (.int .i64) (.cons 1 (.nilS) (.nil)))) (.cons (.row (.cons 0 (.int .i64) (.cons 1 (.nilS) (.nil)))) (.cons (.row (.cons 0 (.int .i64) (.cons 1 (.nilS) (.nil)))) (.nil))))), R1⟩]

theorem mc1Form0 (l : List Near) (k : Int) (s : Nat) (k1 : Int) (k2 : Int) (k3 : Int) (k4 : Int) (N : mc1Z → Prop) (R0 : mc1Z → ((List Near) × Int × Nat × Unit) → ((Unit × Unit × Unit × Unit × Unit) × (Int × Unit × Unit) × (Int × Unit × Unit) × (Int × Unit × Unit) × (Int × (Nat × Nat) × Unit) × (List Near) × Unit) → Prop) (R1 : mc1Z → ((List Near) × Int × Nat × Unit) → ((Unit × Unit × Unit × Unit × Unit) × (Int × Unit × Unit) × (Int × Unit × Unit) × (Int × Unit × Unit) × (Int × Unit × Unit) × Unit) → Prop) : ((runW Try.prog (KLS [(16, tlistK)] [(4, [(26, mbp1C)])] 30) 100).code none 4 122 (loopBody Try.prog 4 22) (mkT (mc1Sl0.av id (l, (k, (s, ((), ())))))) [] (stL false (mc1Bl0.obs id (((), ((), ((), ((), ())))), ((k1, ((), ())), ((k2, ((), ())), ((k3, ((), ())), ((k4, ((), ())), ()))))))) (postL 0 mc1Fs (mc1Alts R0 R1) (mc1Z0 (l, (k, (s, ((), ())))) (((), ((), ((), ((), ())))), ((k1, ((), ())), ((k2, ((), ())), ((k3, ((), ())), ((k4, ((), ())), ())))))) N)) =
  ( idxOk (Int.ofNat (1 : Nat)) s ∧ (False ∨ true = true ∧ list0Pre (((), ()), (k2, (), ()), ()) ∧ (∀ c d, list0R0 (((), ()), (k2, (), ()), ()) c d → LoopOk
  Try.prog (4 : FuncId) (122 : Nat) (loopBody Try.prog (4 : FuncId) (26 : Nat)).loop mbp1C ∧ (True ∧ True ∧ ((∃ l_1, VW l l_1 ∧ ∃ l, VW c.1 l ∧ False) ∨ ∃ l_1,
  VW l l_1 ∧ ∃ l, VW c.1 l ∧ true = true ∧ mb11Inv ((l_1, k, s, (), l, wrapF IntKind.i64 ((Int.ofNat c.1.length).sub (1 : Int)), ()), ((), (), (), (), ()), (k1,
  (), ()), (d.1.1, (), ()), (k3, (), ()), (k4, ((0 : Nat), (0 : Nat)), ()), [], ()) ∧ (∀ c_1 d_1, mb11R0 ((l_1, k, s, (), l, wrapF IntKind.i64 ((Int.ofNat
  c.1.length).sub (1 : Int)), ()), ((), (), (), (), ()), (k1, (), ()), (d.1.1, (), ()), (k3, (), ()), (k4, ((0 : Nat), (0 : Nat)), ()), [], ()) c_1 d_1 → True ∧
  ((∃ l, VW c_1.1 l ∧ False) ∨ (∃ l, VW c_1.1 l ∧ False) ∨ (∃ l, VW c_1.1 l ∧ ∃ l_2, FE d_1.2.2.2.2.2.1 l_2 ∧ true = true ∧ N ((l, c_1.2.1, c_1.2.2.1, (2 : Int),
  ()), ((), (), (), (), ()), (d_1.2.1.1, (), ()), (d_1.2.2.1.1, (), ()), (d_1.2.2.2.1.1, (), ()), (d_1.2.2.2.2.1.1, (d_1.2.2.2.2.1.2.1.fst,
  d_1.2.2.2.2.1.2.1.snd), ()), l_2, ())) ∨ (∃ l, VW c_1.1 l ∧ False) ∨ ∃ l, VW c_1.1 l ∧ False)) ∧ (∀ c_1 d_1, mb11R1 ((l_1, k, s, (), l, wrapF IntKind.i64
  ((Int.ofNat c.1.length).sub (1 : Int)), ()), ((), (), (), (), ()), (k1, (), ()), (d.1.1, (), ()), (k3, (), ()), (k4, ((0 : Nat), (0 : Nat)), ()), [], ()) c_1
  d_1 → True ∧ ((∃ l, VW c_1.1 l ∧ False) ∨ (∃ l, VW c_1.1 l ∧ true = true ∧ N ((l, c_1.2.1, c_1.2.2.1, (2 : Int), ()), ((), (), (), (), ()), (d_1.2.1.1, (),
  ()), (d_1.2.2.1.1, (), ()), (d_1.2.2.2.1.1, (), ()), (d_1.2.2.2.2.1.1, ((0 : Nat), (0 : Nat)), ()), [], ())) ∨ (∃ l, VW c_1.1 l ∧ False) ∨ (∃ l, VW c_1.1 l ∧
  False) ∨ ∃ l, VW c_1.1 l ∧ False)) ∧ True) ∨ True ∧ True ∧ ((∃ l_1, VW l l_1 ∧ False) ∨ ∃ l_1, VW l l_1 ∧ False))) ∧ True)) := by kernel_rfl

theorem mc1Form1 (l : List Near) (k : Int) (s : Nat) (k1 : Int) (k2 : Int) (k3 : Int) (k4 : Int) (N : mc1Z → Prop) (R0 : mc1Z → ((List Near) × Int × Nat × Unit) → ((Unit × Unit × Unit × Unit × Unit) × (Int × Unit × Unit) × (Int × Unit × Unit) × (Int × Unit × Unit) × (Int × (Nat × Nat) × Unit) × (List Near) × Unit) → Prop) (R1 : mc1Z → ((List Near) × Int × Nat × Unit) → ((Unit × Unit × Unit × Unit × Unit) × (Int × Unit × Unit) × (Int × Unit × Unit) × (Int × Unit × Unit) × (Int × Unit × Unit) × Unit) → Prop) : ((runW Try.prog (KLS [(16, tlistK)] [(4, [(26, mbp1C)])] 30) 100).code none 4 122 (loopBody Try.prog 4 22) (mkT (mc1Sl1.av id (l, (k, (s, ((), ())))))) [] (stL false (mc1Bl1.obs id (((), ((), ((), ((), ())))), ((k1, ((), ())), ((k2, ((), ())), ((k3, ((), ())), ((k4, ((), ())), ()))))))) (postL 0 mc1Fs (mc1Alts R0 R1) (mc1Z1 (l, (k, (s, ((), ())))) (((), ((), ((), ((), ())))), ((k1, ((), ())), ((k2, ((), ())), ((k3, ((), ())), ((k4, ((), ())), ())))))) N)) =
  ( idxOk (Int.ofNat (2 : Nat)) s ∧ (False ∨ true = true ∧ list0Pre (((), ()), (k3, (), ()), ()) ∧ (∀ c d, list0R0 (((), ()), (k3, (), ()), ()) c d → LoopOk
  Try.prog (4 : FuncId) (122 : Nat) (loopBody Try.prog (4 : FuncId) (26 : Nat)).loop mbp1C ∧ (True ∧ True ∧ ((∃ l_1, VW l l_1 ∧ False) ∨ ∃ l_1, VW l l_1 ∧ False)
  ∨ True ∧ True ∧ ((∃ l_1, VW l l_1 ∧ ∃ l, VW c.1 l ∧ False) ∨ ∃ l_1, VW l l_1 ∧ ∃ l, VW c.1 l ∧ true = true ∧ mb12Inv ((l_1, k, s, (), l, wrapF IntKind.i64
  ((Int.ofNat c.1.length).sub (1 : Int)), ()), ((), (), (), (), ()), (k1, (), ()), (k2, (), ()), (d.1.1, (), ()), (k4, ((0 : Nat), (0 : Nat)), ()), [], ()) ∧ (∀
  c_1 d_1, mb12R0 ((l_1, k, s, (), l, wrapF IntKind.i64 ((Int.ofNat c.1.length).sub (1 : Int)), ()), ((), (), (), (), ()), (k1, (), ()), (k2, (), ()), (d.1.1,
  (), ()), (k4, ((0 : Nat), (0 : Nat)), ()), [], ()) c_1 d_1 → True ∧ ((∃ l, VW c_1.1 l ∧ False) ∨ (∃ l, VW c_1.1 l ∧ False) ∨ (∃ l, VW c_1.1 l ∧ False) ∨ (∃ l,
  VW c_1.1 l ∧ False) ∨ ∃ l, VW c_1.1 l ∧ ∃ l_2, FE d_1.2.2.2.2.2.1 l_2 ∧ true = true ∧ N ((l, c_1.2.1, c_1.2.2.1, (3 : Int), ()), ((), (), (), (), ()),
  (d_1.2.1.1, (), ()), (d_1.2.2.1.1, (), ()), (d_1.2.2.2.1.1, (), ()), (d_1.2.2.2.2.1.1, (d_1.2.2.2.2.1.2.1.fst, d_1.2.2.2.2.1.2.1.snd), ()), l_2, ()))) ∧ (∀ c_1
  d_1, mb12R1 ((l_1, k, s, (), l, wrapF IntKind.i64 ((Int.ofNat c.1.length).sub (1 : Int)), ()), ((), (), (), (), ()), (k1, (), ()), (k2, (), ()), (d.1.1, (),
  ()), (k4, ((0 : Nat), (0 : Nat)), ()), [], ()) c_1 d_1 → True ∧ ((∃ l, VW c_1.1 l ∧ False) ∨ (∃ l, VW c_1.1 l ∧ False) ∨ (∃ l, VW c_1.1 l ∧ False) ∨ (∃ l, VW
  c_1.1 l ∧ true = true ∧ N ((l, c_1.2.1, c_1.2.2.1, (3 : Int), ()), ((), (), (), (), ()), (d_1.2.1.1, (), ()), (d_1.2.2.1.1, (), ()), (d_1.2.2.2.1.1, (), ()),
  (d_1.2.2.2.2.1.1, ((0 : Nat), (0 : Nat)), ()), [], ())) ∨ ∃ l, VW c_1.1 l ∧ False)) ∧ True))) ∧ True)) := by kernel_rfl

theorem mc1Form2 (l : List Near) (k : Int) (s : Nat) (k1 : Int) (k2 : Int) (k3 : Int) (k4 : Int) (h4 : Nat × Nat) (m4 : List Near) (N : mc1Z → Prop) (R0 : mc1Z → ((List Near) × Int × Nat × Unit) → ((Unit × Unit × Unit × Unit × Unit) × (Int × Unit × Unit) × (Int × Unit × Unit) × (Int × Unit × Unit) × (Int × (Nat × Nat) × Unit) × (List Near) × Unit) → Prop) (R1 : mc1Z → ((List Near) × Int × Nat × Unit) → ((Unit × Unit × Unit × Unit × Unit) × (Int × Unit × Unit) × (Int × Unit × Unit) × (Int × Unit × Unit) × (Int × Unit × Unit) × Unit) → Prop) : ((runW Try.prog (KLS [(16, tlistK)] [(4, [(26, mbp1C)])] 30) 100).code none 4 122 (loopBody Try.prog 4 22) (mkT (mc1Sl2.av id (l, (k, (s, ((), ())))))) [] (stL false (mc1Bl2.obs id (((), ((), ((), ((), ())))), ((k1, ((), ())), ((k2, ((), ())), ((k3, ((), ())), ((k4, (h4, ())), (m4, ())))))))) (postL 0 mc1Fs (mc1Alts R0 R1) (mc1Z2 (l, (k, (s, ((), ())))) (((), ((), ((), ((), ())))), ((k1, ((), ())), ((k2, ((), ())), ((k3, ((), ())), ((k4, (h4, ())), (m4, ()))))))) N)) =
  ( idxOk (Int.ofNat (2 : Nat)) s ∧ (False ∨ true = true ∧ list0Pre (((), ()), (k3, (), ()), ()) ∧ (∀ c d, list0R0 (((), ()), (k3, (), ()), ()) c d → LoopOk
  Try.prog (4 : FuncId) (122 : Nat) (loopBody Try.prog (4 : FuncId) (26 : Nat)).loop mbp1C ∧ (True ∧ True ∧ ((∃ l_1, VW l l_1 ∧ False) ∨ ∃ l_1, VW l l_1 ∧ False)
  ∨ True ∧ True ∧ ((∃ l_1, VW l l_1 ∧ ∃ l, VW c.1 l ∧ ∃ l_2, FE m4 l_2 ∧ true = true ∧ mb12Inv ((l_1, k, s, (), l, wrapF IntKind.i64 ((Int.ofNat c.1.length).sub
  (1 : Int)), ()), ((), (), (), (), ()), (k1, (), ()), (k2, (), ()), (d.1.1, (), ()), (k4, (h4.fst, h4.snd), ()), l_2, ()) ∧ (∀ c_1 d_1, mb12R0 ((l_1, k, s, (),
  l, wrapF IntKind.i64 ((Int.ofNat c.1.length).sub (1 : Int)), ()), ((), (), (), (), ()), (k1, (), ()), (k2, (), ()), (d.1.1, (), ()), (k4, (h4.fst, h4.snd),
  ()), l_2, ()) c_1 d_1 → True ∧ ((∃ l, VW c_1.1 l ∧ False) ∨ (∃ l, VW c_1.1 l ∧ False) ∨ (∃ l, VW c_1.1 l ∧ False) ∨ (∃ l, VW c_1.1 l ∧ False) ∨ ∃ l, VW c_1.1 l
  ∧ ∃ l_3, FE d_1.2.2.2.2.2.1 l_3 ∧ true = true ∧ N ((l, c_1.2.1, c_1.2.2.1, (3 : Int), ()), ((), (), (), (), ()), (d_1.2.1.1, (), ()), (d_1.2.2.1.1, (), ()),
  (d_1.2.2.2.1.1, (), ()), (d_1.2.2.2.2.1.1, (d_1.2.2.2.2.1.2.1.fst, d_1.2.2.2.2.1.2.1.snd), ()), l_3, ()))) ∧ (∀ c_1 d_1, mb12R1 ((l_1, k, s, (), l, wrapF
  IntKind.i64 ((Int.ofNat c.1.length).sub (1 : Int)), ()), ((), (), (), (), ()), (k1, (), ()), (k2, (), ()), (d.1.1, (), ()), (k4, (h4.fst, h4.snd), ()), l_2,
  ()) c_1 d_1 → True ∧ ((∃ l, VW c_1.1 l ∧ False) ∨ (∃ l, VW c_1.1 l ∧ False) ∨ (∃ l, VW c_1.1 l ∧ False) ∨ (∃ l, VW c_1.1 l ∧ true = true ∧ N ((l, c_1.2.1,
  c_1.2.2.1, (3 : Int), ()), ((), (), (), (), ()), (d_1.2.1.1, (), ()), (d_1.2.2.1.1, (), ()), (d_1.2.2.2.1.1, (), ()), (d_1.2.2.2.2.1.1, ((0 : Nat), (0 : Nat)),
  ()), [], ())) ∨ ∃ l, VW c_1.1 l ∧ False)) ∧ True) ∨ ∃ l_1, VW l l_1 ∧ ∃ l, VW c.1 l ∧ False))) ∧ True)) := by kernel_rfl

theorem mc1Form3 (l : List Near) (k : Int) (s : Nat) (k1 : Int) (k2 : Int) (k3 : Int) (k4 : Int) (N : mc1Z → Prop) (R0 : mc1Z → ((List Near) × Int × Nat × Unit) → ((Unit × Unit × Unit × Unit × Unit) × (Int × Unit × Unit) × (Int × Unit × Unit) × (Int × Unit × Unit) × (Int × (Nat × Nat) × Unit) × (List Near) × Unit) → Prop) (R1 : mc1Z → ((List Near) × Int × Nat × Unit) → ((Unit × Unit × Unit × Unit × Unit) × (Int × Unit × Unit) × (Int × Unit × Unit) × (Int × Unit × Unit) × (Int × Unit × Unit) × Unit) → Prop) : ((runW Try.prog (KLS [(16, tlistK)] [(4, [(26, mbp1C)])] 30) 100).code none 4 122 (loopBody Try.prog 4 22) (mkT (mc1Sl3.av id (l, (k, (s, ((), ())))))) [] (stL false (mc1Bl3.obs id (((), ((), ((), ((), ())))), ((k1, ((), ())), ((k2, ((), ())), ((k3, ((), ())), ((k4, ((), ())), ()))))))) (postL 0 mc1Fs (mc1Alts R0 R1) (mc1Z3 (l, (k, (s, ((), ())))) (((), ((), ((), ((), ())))), ((k1, ((), ())), ((k2, ((), ())), ((k3, ((), ())), ((k4, ((), ())), ())))))) N)) =
  ( (True ∧ ∃ l_1, VW l l_1 ∧ False) ∨ True ∧ ∃ l_1, VW l l_1 ∧ true = true ∧ R1 ((l, k, s, (3 : Int), ()), ((), (), (), (), ()), (k1, (), ()), (k2, (), ()), (k3,
  (), ()), (k4, ((0 : Nat), (0 : Nat)), ()), [], ()) (l_1, k, s, ()) (((), (), (), (), ()), (k1, (), ()), (k2, (), ()), (k3, (), ()), (k4, (), ()), ())) := by kernel_rfl

theorem mc1Form4 (l : List Near) (k : Int) (s : Nat) (k1 : Int) (k2 : Int) (k3 : Int) (k4 : Int) (h4 : Nat × Nat) (m4 : List Near) (N : mc1Z → Prop) (R0 : mc1Z → ((List Near) × Int × Nat × Unit) → ((Unit × Unit × Unit × Unit × Unit) × (Int × Unit × Unit) × (Int × Unit × Unit) × (Int × Unit × Unit) × (Int × (Nat × Nat) × Unit) × (List Near) × Unit) → Prop) (R1 : mc1Z → ((List Near) × Int × Nat × Unit) → ((Unit × Unit × Unit × Unit × Unit) × (Int × Unit × Unit) × (Int × Unit × Unit) × (Int × Unit × Unit) × (Int × Unit × Unit) × Unit) → Prop) : ((runW Try.prog (KLS [(16, tlistK)] [(4, [(26, mbp1C)])] 30) 100).code none 4 122 (loopBody Try.prog 4 22) (mkT (mc1Sl4.av id (l, (k, (s, ((), ())))))) [] (stL false (mc1Bl4.obs id (((), ((), ((), ((), ())))), ((k1, ((), ())), ((k2, ((), ())), ((k3, ((), ())), ((k4, (h4, ())), (m4, ())))))))) (postL 0 mc1Fs (mc1Alts R0 R1) (mc1Z4 (l, (k, (s, ((), ())))) (((), ((), ((), ((), ())))), ((k1, ((), ())), ((k2, ((), ())), ((k3, ((), ())), ((k4, (h4, ())), (m4, ()))))))) N)) =
  ( (True ∧ ∃ l_1, VW l l_1 ∧ ∃ l_2, FE m4 l_2 ∧ true = true ∧ R0 ((l, k, s, (3 : Int), ()), ((), (), (), (), ()), (k1, (), ()), (k2, (), ()), (k3, (), ()), (k4,
  h4, ()), m4, ()) (l_1, k, s, ()) (((), (), (), (), ()), (k1, (), ()), (k2, (), ()), (k3, (), ()), (k4, (h4.fst, h4.snd), ()), l_2, ())) ∨ True ∧ ∃ l_1, VW l
  l_1 ∧ False) := by kernel_rfl

def mc1Inv : mc1Z → Prop := fun ((l, (k, (s, (o, ())))), (((), ((), ((), ((), ())))), ((k1, ((), ())), ((k2, ((), ())), ((k3, ((), ())), ((k4, (h4, ())), (m4, ()))))))) => s = 4 ∧ l.length ≤ 150 ∧ 0 ≤ k ∧ k ≤ 150 ∧ k1 = k ∧ k2 = k ∧ k3 = k ∧ k4 = k ∧ h4 = (m4.length, m4.length) ∧ ∃ u : Nat, MaR k l u [] [] [] ∧ TopOk k m4 (topL k (McX k l u o))
def mc1Mu : mc1Z → Nat := fun ((l, (k, (s, (o, ())))), (((), ((), ((), ((), ())))), ((k1, ((), ())), ((k2, ((), ())), ((k3, ((), ())), ((k4, (h4, ())), (m4, ()))))))) => (3 - o).toNat
def mc1R0 : mc1Z → ((List Near) × Int × Nat × Unit) → ((Unit × Unit × Unit × Unit × Unit) × (Int × Unit × Unit) × (Int × Unit × Unit) × (Int × Unit × Unit) × (Int × (Nat × Nat) × Unit) × (List Near) × Unit) → Prop := fun ((l, (k, (s, (o, ())))), (((), ((), ((), ((), ())))), ((k1, ((), ())), ((k2, ((), ())), ((k3, ((), ())), ((k4, (h4, ())), (m4, ()))))))) (l2, y, s2, _) (_, (x1, _), (x2, _), (x3, _), (x4, g4, _), n4, _) => l2 = l ∧ y = k ∧ s2 = 4 ∧ x1 = k ∧ x4 = k ∧ 0 ≤ k ∧ k ≤ 150 ∧ l.length ≤ 150 ∧ g4 = (n4.length, n4.length) ∧ TopOk k [] (topL k l) ∧ TopOk k n4 (topL k l)
def mc1R1 : mc1Z → ((List Near) × Int × Nat × Unit) → ((Unit × Unit × Unit × Unit × Unit) × (Int × Unit × Unit) × (Int × Unit × Unit) × (Int × Unit × Unit) × (Int × Unit × Unit) × Unit) → Prop := fun ((l, (k, (s, (o, ())))), (((), ((), ((), ((), ())))), ((k1, ((), ())), ((k2, ((), ())), ((k3, ((), ())), ((k4, (h4, ())), (m4, ()))))))) (l2, y, s2, _) (_, (x1, _), (x2, _), (x3, _), (x4, _), _) => l2 = l ∧ y = k ∧ s2 = 4 ∧ x1 = k ∧ x4 = k ∧ 0 ≤ k ∧ k ≤ 150 ∧ l.length ≤ 150 ∧ TopOk k [] (topL k l) ∧ TopOk k [] (topL k l)
noncomputable def mc1C : LoopC := loopC 0 mc1Fs (mc1Alts mc1R0 mc1R1) mc1Inv

theorem mc1Step0 : stepsOk Try.prog (KLS [(16, tlistK)] [(4, [(26, mbp1C)])] 30) 100 4 122 (loopBody Try.prog 4 22) 0 false mc1Fs (mc1Alts mc1R0 mc1R1) mc1Inv mc1Mu ⟨_, _, mc1Sl0, mc1Bl0, mc1Z0⟩ := by
  intro x y hz
  obtain ⟨l, k, s, _, _⟩ := x
  obtain ⟨⟨_, _, _, _, _⟩, ⟨k1, _, _⟩, ⟨k2, _, _⟩, ⟨k3, _, _⟩, ⟨k4, _, _⟩, _⟩ := y
  refine (mc1Form0 l k s k1 k2 k3 k4 _ _ _).mpr ?_
  obtain ⟨hs, hl, k0, kle, q1, q2, q3, q4, g4, u, hM, hT⟩ := hz
  obtain rfl : s = 4 := hs
  obtain rfl : k = k1 := q1.symm
  obtain rfl : k = k2 := q2.symm
  obtain rfl : k = k3 := q3.symm
  obtain rfl : k = k4 := q4.symm
  have hP : TopOk k [] (topL k (l.take u)) := hM.2.1
  have hPl := hP.len
  have hPk := hP.l
  refine ⟨⟨by decide, by decide⟩, Or.inr ⟨(by first | exact trivial | exact rfl), trivial, fun c d hr => ?_, trivial⟩⟩
  obtain ⟨x, _⟩ := c
  obtain ⟨⟨kx, _⟩, _⟩ := d
  obtain ⟨hx, hk2⟩ := hr
  obtain rfl : k = kx := hk2.symm
  replace hx : x = topL k (l.take u) := hx.trans (List.length_eq_zero_iff.1 hPl.symm).symm
  have hxl : x.length ≤ 150 := by rw [hx]; omega
  have ew : wrapF .i64 (Int.sub (Int.ofNat x.length) 1) = (x.length : Int) - 1 := by
    show wrapF .i64 (Int.sub (x.length : Int) 1) = _
    rw [wsub (by omega) (by omega)]
  refine ⟨mbp1Ok, Or.inl ⟨trivial, trivial, Or.inr ⟨l, Wk.refl _, x, Wk.refl _, (by first | exact trivial | exact rfl), ⟨x.length, ew, Nat.le_refl _, hxl, rfl, k0, kle, rfl, rfl, rfl, rfl, rfl, _, hT⟩, fun c1 d1 hr1 => ?_, fun c1 d1 hr1 => ?_, trivial⟩⟩⟩
  · obtain ⟨l2, y, s2, _, _⟩ := c1
    obtain ⟨_, ⟨x1, _⟩, ⟨x2, _⟩, ⟨x3, _⟩, ⟨x4, g4, _⟩, n4, _⟩ := d1
    obtain ⟨hl2, hy, hs2, hx1, hx2, hx3, hx4, hg4, hA⟩ := hr1
    obtain rfl : l = l2 := hl2.symm
    obtain rfl : k = y := hy.symm
    obtain rfl : s2 = 4 := hs2
    obtain rfl : k = x1 := hx1.symm
    obtain rfl : k = x2 := hx2.symm
    obtain rfl : k = x3 := hx3.symm
    obtain rfl : k = x4 := hx4.symm
    obtain rfl : g4 = (n4.length, n4.length) := hg4
    have hB := hA _ hT
    rw [ew, show ((x.length : Int) - 1 + 1).toNat = x.length by omega, List.take_length, hx] at hB
    exact ⟨trivial, Or.inr (Or.inr (Or.inl ⟨l, Wk.refl _, n4, rfl, (by first | exact trivial | exact rfl), ⟨rfl, hl, k0, kle, rfl, rfl, rfl, rfl, rfl, u, hM, hB⟩, by show (3 - (2 : Int)).toNat < (3 - (1 : Int)).toNat; decide, fun _ _ h => h, fun _ _ h => h, trivial⟩))⟩
  · obtain ⟨l2, y, s2, _, _⟩ := c1
    obtain ⟨_, ⟨x1, _⟩, ⟨x2, _⟩, ⟨x3, _⟩, ⟨x4, _⟩, _⟩ := d1
    obtain ⟨hl2, hy, hs2, hx1, hx2, hx3, hx4, hA⟩ := hr1
    obtain rfl : l = l2 := hl2.symm
    obtain rfl : k = y := hy.symm
    obtain rfl : s2 = 4 := hs2
    obtain rfl : k = x1 := hx1.symm
    obtain rfl : k = x2 := hx2.symm
    obtain rfl : k = x3 := hx3.symm
    obtain rfl : k = x4 := hx4.symm
    have hB := hA _ hT
    rw [ew, show ((x.length : Int) - 1 + 1).toNat = x.length by omega, List.take_length, hx] at hB
    exact ⟨trivial, Or.inr (Or.inl ⟨l, Wk.refl _, (by first | exact trivial | exact rfl), ⟨rfl, hl, k0, kle, rfl, rfl, rfl, rfl, rfl, u, hM, hB⟩, by show (3 - (2 : Int)).toNat < (3 - (1 : Int)).toNat; decide, fun _ _ h => h, fun _ _ h => h, trivial⟩)⟩
theorem mc1Step1 : stepsOk Try.prog (KLS [(16, tlistK)] [(4, [(26, mbp1C)])] 30) 100 4 122 (loopBody Try.prog 4 22) 0 false mc1Fs (mc1Alts mc1R0 mc1R1) mc1Inv mc1Mu ⟨_, _, mc1Sl1, mc1Bl1, mc1Z1⟩ := by
  intro x y hz
  obtain ⟨l, k, s, _, _⟩ := x
  obtain ⟨⟨_, _, _, _, _⟩, ⟨k1, _, _⟩, ⟨k2, _, _⟩, ⟨k3, _, _⟩, ⟨k4, _, _⟩, _⟩ := y
  refine (mc1Form1 l k s k1 k2 k3 k4 _ _ _).mpr ?_
  obtain ⟨hs, hl, k0, kle, q1, q2, q3, q4, g4, u, hM, hT⟩ := hz
  obtain rfl : s = 4 := hs
  obtain rfl : k = k1 := q1.symm
  obtain rfl : k = k2 := q2.symm
  obtain rfl : k = k3 := q3.symm
  obtain rfl : k = k4 := q4.symm
  have hP : TopOk k [] (topL k (l.drop u)) := hM.2.2
  have hPl := hP.len
  have hPk := hP.l
  refine ⟨⟨by decide, by decide⟩, Or.inr ⟨(by first | exact trivial | exact rfl), trivial, fun c d hr => ?_, trivial⟩⟩
  obtain ⟨x, _⟩ := c
  obtain ⟨⟨kx, _⟩, _⟩ := d
  obtain ⟨hx, hk2⟩ := hr
  obtain rfl : k = kx := hk2.symm
  replace hx : x = topL k (l.drop u) := hx.trans (List.length_eq_zero_iff.1 hPl.symm).symm
  have hxl : x.length ≤ 150 := by rw [hx]; omega
  have ew : wrapF .i64 (Int.sub (Int.ofNat x.length) 1) = (x.length : Int) - 1 := by
    show wrapF .i64 (Int.sub (x.length : Int) 1) = _
    rw [wsub (by omega) (by omega)]
  refine ⟨mbp1Ok, Or.inr ⟨trivial, trivial, Or.inr ⟨l, Wk.refl _, x, Wk.refl _, (by first | exact trivial | exact rfl), ⟨x.length, ew, Nat.le_refl _, hxl, rfl, k0, kle, rfl, rfl, rfl, rfl, rfl, _, hT⟩, fun c1 d1 hr1 => ?_, fun c1 d1 hr1 => ?_, trivial⟩⟩⟩
  · obtain ⟨l2, y, s2, _, _⟩ := c1
    obtain ⟨_, ⟨x1, _⟩, ⟨x2, _⟩, ⟨x3, _⟩, ⟨x4, g4, _⟩, n4, _⟩ := d1
    obtain ⟨hl2, hy, hs2, hx1, hx2, hx3, hx4, hg4, hA⟩ := hr1
    obtain rfl : l = l2 := hl2.symm
    obtain rfl : k = y := hy.symm
    obtain rfl : s2 = 4 := hs2
    obtain rfl : k = x1 := hx1.symm
    obtain rfl : k = x2 := hx2.symm
    obtain rfl : k = x3 := hx3.symm
    obtain rfl : k = x4 := hx4.symm
    obtain rfl : g4 = (n4.length, n4.length) := hg4
    have hB := hA _ hT
    rw [ew, show ((x.length : Int) - 1 + 1).toNat = x.length by omega, List.take_length, hx] at hB
    exact ⟨trivial, Or.inr (Or.inr (Or.inr (Or.inr ⟨l, Wk.refl _, n4, rfl, (by first | exact trivial | exact rfl), ⟨rfl, hl, k0, kle, rfl, rfl, rfl, rfl, rfl, u, hM, hB⟩, by show (3 - (3 : Int)).toNat < (3 - (2 : Int)).toNat; decide, fun _ _ h => h, fun _ _ h => h, trivial⟩)))⟩
  · obtain ⟨l2, y, s2, _, _⟩ := c1
    obtain ⟨_, ⟨x1, _⟩, ⟨x2, _⟩, ⟨x3, _⟩, ⟨x4, _⟩, _⟩ := d1
    obtain ⟨hl2, hy, hs2, hx1, hx2, hx3, hx4, hA⟩ := hr1
    obtain rfl : l = l2 := hl2.symm
    obtain rfl : k = y := hy.symm
    obtain rfl : s2 = 4 := hs2
    obtain rfl : k = x1 := hx1.symm
    obtain rfl : k = x2 := hx2.symm
    obtain rfl : k = x3 := hx3.symm
    obtain rfl : k = x4 := hx4.symm
    have hB := hA _ hT
    rw [ew, show ((x.length : Int) - 1 + 1).toNat = x.length by omega, List.take_length, hx] at hB
    exact ⟨trivial, Or.inr (Or.inr (Or.inr (Or.inl ⟨l, Wk.refl _, (by first | exact trivial | exact rfl), ⟨rfl, hl, k0, kle, rfl, rfl, rfl, rfl, rfl, u, hM, hB⟩, by show (3 - (3 : Int)).toNat < (3 - (2 : Int)).toNat; decide, fun _ _ h => h, fun _ _ h => h, trivial⟩)))⟩
theorem mc1Step2 : stepsOk Try.prog (KLS [(16, tlistK)] [(4, [(26, mbp1C)])] 30) 100 4 122 (loopBody Try.prog 4 22) 0 false mc1Fs (mc1Alts mc1R0 mc1R1) mc1Inv mc1Mu ⟨_, _, mc1Sl2, mc1Bl2, mc1Z2⟩ := by
  intro x y hz
  obtain ⟨l, k, s, _, _⟩ := x
  obtain ⟨⟨_, _, _, _, _⟩, ⟨k1, _, _⟩, ⟨k2, _, _⟩, ⟨k3, _, _⟩, ⟨k4, h4, _⟩, m4, _⟩ := y
  refine (mc1Form2 l k s k1 k2 k3 k4 h4 m4 _ _ _).mpr ?_
  obtain ⟨hs, hl, k0, kle, q1, q2, q3, q4, g4, u, hM, hT⟩ := hz
  obtain rfl : s = 4 := hs
  obtain rfl : k = k1 := q1.symm
  obtain rfl : k = k2 := q2.symm
  obtain rfl : k = k3 := q3.symm
  obtain rfl : k = k4 := q4.symm
  obtain rfl : h4 = (m4.length, m4.length) := g4
  have hP : TopOk k [] (topL k (l.drop u)) := hM.2.2
  have hPl := hP.len
  have hPk := hP.l
  refine ⟨⟨by decide, by decide⟩, Or.inr ⟨(by first | exact trivial | exact rfl), trivial, fun c d hr => ?_, trivial⟩⟩
  obtain ⟨x, _⟩ := c
  obtain ⟨⟨kx, _⟩, _⟩ := d
  obtain ⟨hx, hk2⟩ := hr
  obtain rfl : k = kx := hk2.symm
  replace hx : x = topL k (l.drop u) := hx.trans (List.length_eq_zero_iff.1 hPl.symm).symm
  have hxl : x.length ≤ 150 := by rw [hx]; omega
  have ew : wrapF .i64 (Int.sub (Int.ofNat x.length) 1) = (x.length : Int) - 1 := by
    show wrapF .i64 (Int.sub (x.length : Int) 1) = _
    rw [wsub (by omega) (by omega)]
  refine ⟨mbp1Ok, Or.inr ⟨trivial, trivial, Or.inl ⟨l, Wk.refl _, x, Wk.refl _, m4, rfl, (by first | exact trivial | exact rfl), ⟨x.length, ew, Nat.le_refl _, hxl, rfl, k0, kle, rfl, rfl, rfl, rfl, rfl, _, hT⟩, fun c1 d1 hr1 => ?_, fun c1 d1 hr1 => ?_, trivial⟩⟩⟩
  · obtain ⟨l2, y, s2, _, _⟩ := c1
    obtain ⟨_, ⟨x1, _⟩, ⟨x2, _⟩, ⟨x3, _⟩, ⟨x4, g4, _⟩, n4, _⟩ := d1
    obtain ⟨hl2, hy, hs2, hx1, hx2, hx3, hx4, hg4, hA⟩ := hr1
    obtain rfl : l = l2 := hl2.symm
    obtain rfl : k = y := hy.symm
    obtain rfl : s2 = 4 := hs2
    obtain rfl : k = x1 := hx1.symm
    obtain rfl : k = x2 := hx2.symm
    obtain rfl : k = x3 := hx3.symm
    obtain rfl : k = x4 := hx4.symm
    obtain rfl : g4 = (n4.length, n4.length) := hg4
    have hB := hA _ hT
    rw [ew, show ((x.length : Int) - 1 + 1).toNat = x.length by omega, List.take_length, hx] at hB
    exact ⟨trivial, Or.inr (Or.inr (Or.inr (Or.inr ⟨l, Wk.refl _, n4, rfl, (by first | exact trivial | exact rfl), ⟨rfl, hl, k0, kle, rfl, rfl, rfl, rfl, rfl, u, hM, hB⟩, by show (3 - (3 : Int)).toNat < (3 - (2 : Int)).toNat; decide, fun _ _ h => h, fun _ _ h => h, trivial⟩)))⟩
  · obtain ⟨l2, y, s2, _, _⟩ := c1
    obtain ⟨_, ⟨x1, _⟩, ⟨x2, _⟩, ⟨x3, _⟩, ⟨x4, _⟩, _⟩ := d1
    obtain ⟨hl2, hy, hs2, hx1, hx2, hx3, hx4, hA⟩ := hr1
    obtain rfl : l = l2 := hl2.symm
    obtain rfl : k = y := hy.symm
    obtain rfl : s2 = 4 := hs2
    obtain rfl : k = x1 := hx1.symm
    obtain rfl : k = x2 := hx2.symm
    obtain rfl : k = x3 := hx3.symm
    obtain rfl : k = x4 := hx4.symm
    have hB := hA _ hT
    rw [ew, show ((x.length : Int) - 1 + 1).toNat = x.length by omega, List.take_length, hx] at hB
    exact ⟨trivial, Or.inr (Or.inr (Or.inr (Or.inl ⟨l, Wk.refl _, (by first | exact trivial | exact rfl), ⟨rfl, hl, k0, kle, rfl, rfl, rfl, rfl, rfl, u, hM, hB⟩, by show (3 - (3 : Int)).toNat < (3 - (2 : Int)).toNat; decide, fun _ _ h => h, fun _ _ h => h, trivial⟩)))⟩
theorem mc1Step3 : stepsOk Try.prog (KLS [(16, tlistK)] [(4, [(26, mbp1C)])] 30) 100 4 122 (loopBody Try.prog 4 22) 0 false mc1Fs (mc1Alts mc1R0 mc1R1) mc1Inv mc1Mu ⟨_, _, mc1Sl3, mc1Bl3, mc1Z3⟩ := by
  intro x y hz
  obtain ⟨l, k, s, _, _⟩ := x
  obtain ⟨⟨_, _, _, _, _⟩, ⟨k1, _, _⟩, ⟨k2, _, _⟩, ⟨k3, _, _⟩, ⟨k4, _, _⟩, _⟩ := y
  refine (mc1Form3 l k s k1 k2 k3 k4 _ _ _).mpr ?_
  obtain ⟨hs, hl, k0, kle, q1, q2, q3, q4, g4, u, hM, hT⟩ := hz
  obtain rfl : s = 4 := hs
  obtain rfl : k = k1 := q1.symm
  obtain rfl : k = k2 := q2.symm
  obtain rfl : k = k3 := q3.symm
  obtain rfl : k = k4 := q4.symm
  have hT2 : TopOk k [] (topL k (([] ++ (topL k (l.take u)).reverse) ++ (topL k (l.drop u)).reverse)) := hT
  rw [top_parts] at hT2
  exact Or.inr ⟨trivial, l, Wk.refl _, (by first | exact trivial | exact rfl), rfl, rfl, rfl, rfl, rfl, k0, kle, hl, hM.1, hT2⟩
theorem mc1Step4 : stepsOk Try.prog (KLS [(16, tlistK)] [(4, [(26, mbp1C)])] 30) 100 4 122 (loopBody Try.prog 4 22) 0 false mc1Fs (mc1Alts mc1R0 mc1R1) mc1Inv mc1Mu ⟨_, _, mc1Sl4, mc1Bl4, mc1Z4⟩ := by
  intro x y hz
  obtain ⟨l, k, s, _, _⟩ := x
  obtain ⟨⟨_, _, _, _, _⟩, ⟨k1, _, _⟩, ⟨k2, _, _⟩, ⟨k3, _, _⟩, ⟨k4, h4, _⟩, m4, _⟩ := y
  refine (mc1Form4 l k s k1 k2 k3 k4 h4 m4 _ _ _).mpr ?_
  obtain ⟨hs, hl, k0, kle, q1, q2, q3, q4, g4, u, hM, hT⟩ := hz
  obtain rfl : s = 4 := hs
  obtain rfl : k = k1 := q1.symm
  obtain rfl : k = k2 := q2.symm
  obtain rfl : k = k3 := q3.symm
  obtain rfl : k = k4 := q4.symm
  obtain rfl : h4 = (m4.length, m4.length) := g4
  have hT2 : TopOk k m4 (topL k (([] ++ (topL k (l.take u)).reverse) ++ (topL k (l.drop u)).reverse)) := hT
  rw [top_parts] at hT2
  exact Or.inl ⟨trivial, l, Wk.refl _, m4, rfl, (by first | exact trivial | exact rfl), rfl, rfl, rfl, rfl, rfl, k0, kle, hl, rfl, hM.1, hT2⟩
theorem mc1Ok : LoopOk Try.prog 4 122 (.loop (loopBody Try.prog 4 22)) mc1C := loop_ok mc1Mu mixed (KLS_ok (cc_cons tlistCc (cc_nil))) rfl (steps_cons mc1Step0 (steps_cons mc1Step1 (steps_cons mc1Step2 (steps_cons mc1Step3 (steps_cons mc1Step4 (steps_nil))))))

/-! The loop mc2 of wayfinder/wayfinderlaw04.RankMerges. -/
abbrev mc2Z := ((List Near) × Int × Nat × Int × Unit) × ((Unit × Unit × Unit × Unit × Unit) × (Int × (Nat × Nat) × Unit) × (Int × (Nat × Nat) × Unit) × (Int × Unit × Unit) × (Int × (Nat × Nat) × Unit) × (List Near) × (List Near) × (List Near) × Unit)
noncomputable def mc2Sl : Tel ((List Near) × Int × Nat × Int × Unit) := .cons 0 (.lst En) (.cons 2 (.int .i64) (.cons 7 (.sl 0 1) (.cons 12 (.int .i64) (.nil))))
noncomputable def mc2Bl : BTel ((Unit × Unit × Unit × Unit × Unit) × (Int × (Nat × Nat) × Unit) × (Int × (Nat × Nat) × Unit) × (Int × Unit × Unit) × (Int × (Nat × Nat) × Unit) × (List Near) × (List Near) × (List Near) × Unit) := .cons (.row (.cons 0 (.ptr 1) (.cons 1 (.ptr 2) (.cons 2 (.ptr 3) (.cons 3 (.ptr 4) (.nil)))))) (.cons (.row (.cons 0 (.int .i64) (.cons 1 (.slq 5 2) (.nil)))) (.cons (.row (.cons 0 (.int .i64) (.cons 1 (.slq 6 2) (.nil)))) (.cons (.row (.cons 0 (.int .i64) (.cons 1 (.nilS) (.nil)))) (.cons (.row (.cons 0 (.int .i64) (.cons 1 (.slq 7 2) (.nil)))) (.cons (.rows En 30) (.cons (.rows En 30) (.cons (.rows En 30) (.nil))))))))
noncomputable def mc2Sl0 : Tel ((List Near) × Int × Nat × Unit × Unit) := .cons 0 (.lst En) (.cons 2 (.int .i64) (.cons 7 (.sl 0 1) (.cons 12 (.num .i64 1) (.nil))))
noncomputable def mc2Bl0 : BTel ((Unit × Unit × Unit × Unit × Unit) × (Int × (Nat × Nat) × Unit) × (Int × (Nat × Nat) × Unit) × (Int × Unit × Unit) × (Int × Unit × Unit) × (List Near) × (List Near) × Unit) := .cons (.row (.cons 0 (.ptr 1) (.cons 1 (.ptr 2) (.cons 2 (.ptr 3) (.cons 3 (.ptr 4) (.nil)))))) (.cons (.row (.cons 0 (.int .i64) (.cons 1 (.slq 5 2) (.nil)))) (.cons (.row (.cons 0 (.int .i64) (.cons 1 (.slq 6 2) (.nil)))) (.cons (.row (.cons 0 (.int .i64) (.cons 1 (.nilS) (.nil)))) (.cons (.row (.cons 0 (.int .i64) (.cons 1 (.nilS) (.nil)))) (.cons (.rows En 30) (.cons (.rows En 30) (.nil)))))))
noncomputable def mc2Z0 : ((List Near) × Int × Nat × Unit × Unit) → ((Unit × Unit × Unit × Unit × Unit) × (Int × (Nat × Nat) × Unit) × (Int × (Nat × Nat) × Unit) × (Int × Unit × Unit) × (Int × Unit × Unit) × (List Near) × (List Near) × Unit) → mc2Z := fun (l, (k, (s, ((), ())))) (((), ((), ((), ((), ())))), ((k1, (h1, ())), ((k2, (h2, ())), ((k3, ((), ())), ((k4, ((), ())), (m1, (m2, ()))))))) => ((l, (k, (s, (1, ())))), (((), ((), ((), ((), ())))), ((k1, (h1, ())), ((k2, (h2, ())), ((k3, ((), ())), ((k4, ((0, 0), ())), (m1, (m2, ([], ())))))))))
noncomputable def mc2Sl1 : Tel ((List Near) × Int × Nat × Unit × Unit) := .cons 0 (.lst En) (.cons 2 (.int .i64) (.cons 7 (.sl 0 1) (.cons 12 (.num .i64 2) (.nil))))
noncomputable def mc2Bl1 : BTel ((Unit × Unit × Unit × Unit × Unit) × (Int × (Nat × Nat) × Unit) × (Int × (Nat × Nat) × Unit) × (Int × Unit × Unit) × (Int × Unit × Unit) × (List Near) × (List Near) × Unit) := .cons (.row (.cons 0 (.ptr 1) (.cons 1 (.ptr 2) (.cons 2 (.ptr 3) (.cons 3 (.ptr 4) (.nil)))))) (.cons (.row (.cons 0 (.int .i64) (.cons 1 (.slq 5 2) (.nil)))) (.cons (.row (.cons 0 (.int .i64) (.cons 1 (.slq 6 2) (.nil)))) (.cons (.row (.cons 0 (.int .i64) (.cons 1 (.nilS) (.nil)))) (.cons (.row (.cons 0 (.int .i64) (.cons 1 (.nilS) (.nil)))) (.cons (.rows En 30) (.cons (.rows En 30) (.nil)))))))
noncomputable def mc2Z1 : ((List Near) × Int × Nat × Unit × Unit) → ((Unit × Unit × Unit × Unit × Unit) × (Int × (Nat × Nat) × Unit) × (Int × (Nat × Nat) × Unit) × (Int × Unit × Unit) × (Int × Unit × Unit) × (List Near) × (List Near) × Unit) → mc2Z := fun (l, (k, (s, ((), ())))) (((), ((), ((), ((), ())))), ((k1, (h1, ())), ((k2, (h2, ())), ((k3, ((), ())), ((k4, ((), ())), (m1, (m2, ()))))))) => ((l, (k, (s, (2, ())))), (((), ((), ((), ((), ())))), ((k1, (h1, ())), ((k2, (h2, ())), ((k3, ((), ())), ((k4, ((0, 0), ())), (m1, (m2, ([], ())))))))))
noncomputable def mc2Sl2 : Tel ((List Near) × Int × Nat × Unit × Unit) := .cons 0 (.lst En) (.cons 2 (.int .i64) (.cons 7 (.sl 0 1) (.cons 12 (.num .i64 2) (.nil))))
noncomputable def mc2Bl2 : BTel ((Unit × Unit × Unit × Unit × Unit) × (Int × (Nat × Nat) × Unit) × (Int × (Nat × Nat) × Unit) × (Int × Unit × Unit) × (Int × (Nat × Nat) × Unit) × (List Near) × (List Near) × (List Near) × Unit) := .cons (.row (.cons 0 (.ptr 1) (.cons 1 (.ptr 2) (.cons 2 (.ptr 3) (.cons 3 (.ptr 4) (.nil)))))) (.cons (.row (.cons 0 (.int .i64) (.cons 1 (.slq 5 2) (.nil)))) (.cons (.row (.cons 0 (.int .i64) (.cons 1 (.slq 6 2) (.nil)))) (.cons (.row (.cons 0 (.int .i64) (.cons 1 (.nilS) (.nil)))) (.cons (.row (.cons 0 (.int .i64) (.cons 1 (.slq 7 2) (.nil)))) (.cons (.rows En 30) (.cons (.rows En 30) (.cons (.rows En 30) (.nil))))))))
noncomputable def mc2Z2 : ((List Near) × Int × Nat × Unit × Unit) → ((Unit × Unit × Unit × Unit × Unit) × (Int × (Nat × Nat) × Unit) × (Int × (Nat × Nat) × Unit) × (Int × Unit × Unit) × (Int × (Nat × Nat) × Unit) × (List Near) × (List Near) × (List Near) × Unit) → mc2Z := fun (l, (k, (s, ((), ())))) (((), ((), ((), ((), ())))), ((k1, (h1, ())), ((k2, (h2, ())), ((k3, ((), ())), ((k4, (h4, ())), (m1, (m2, (m4, ())))))))) => ((l, (k, (s, (2, ())))), (((), ((), ((), ((), ())))), ((k1, (h1, ())), ((k2, (h2, ())), ((k3, ((), ())), ((k4, (h4, ())), (m1, (m2, (m4, ())))))))))
noncomputable def mc2Sl3 : Tel ((List Near) × Int × Nat × Unit × Unit) := .cons 0 (.lst En) (.cons 2 (.int .i64) (.cons 7 (.sl 0 1) (.cons 12 (.num .i64 3) (.nil))))
noncomputable def mc2Bl3 : BTel ((Unit × Unit × Unit × Unit × Unit) × (Int × (Nat × Nat) × Unit) × (Int × (Nat × Nat) × Unit) × (Int × Unit × Unit) × (Int × Unit × Unit) × (List Near) × (List Near) × Unit) := .cons (.row (.cons 0 (.ptr 1) (.cons 1 (.ptr 2) (.cons 2 (.ptr 3) (.cons 3 (.ptr 4) (.nil)))))) (.cons (.row (.cons 0 (.int .i64) (.cons 1 (.slq 5 2) (.nil)))) (.cons (.row (.cons 0 (.int .i64) (.cons 1 (.slq 6 2) (.nil)))) (.cons (.row (.cons 0 (.int .i64) (.cons 1 (.nilS) (.nil)))) (.cons (.row (.cons 0 (.int .i64) (.cons 1 (.nilS) (.nil)))) (.cons (.rows En 30) (.cons (.rows En 30) (.nil)))))))
noncomputable def mc2Z3 : ((List Near) × Int × Nat × Unit × Unit) → ((Unit × Unit × Unit × Unit × Unit) × (Int × (Nat × Nat) × Unit) × (Int × (Nat × Nat) × Unit) × (Int × Unit × Unit) × (Int × Unit × Unit) × (List Near) × (List Near) × Unit) → mc2Z := fun (l, (k, (s, ((), ())))) (((), ((), ((), ((), ())))), ((k1, (h1, ())), ((k2, (h2, ())), ((k3, ((), ())), ((k4, ((), ())), (m1, (m2, ()))))))) => ((l, (k, (s, (3, ())))), (((), ((), ((), ((), ())))), ((k1, (h1, ())), ((k2, (h2, ())), ((k3, ((), ())), ((k4, ((0, 0), ())), (m1, (m2, ([], ())))))))))
noncomputable def mc2Sl4 : Tel ((List Near) × Int × Nat × Unit × Unit) := .cons 0 (.lst En) (.cons 2 (.int .i64) (.cons 7 (.sl 0 1) (.cons 12 (.num .i64 3) (.nil))))
noncomputable def mc2Bl4 : BTel ((Unit × Unit × Unit × Unit × Unit) × (Int × (Nat × Nat) × Unit) × (Int × (Nat × Nat) × Unit) × (Int × Unit × Unit) × (Int × (Nat × Nat) × Unit) × (List Near) × (List Near) × (List Near) × Unit) := .cons (.row (.cons 0 (.ptr 1) (.cons 1 (.ptr 2) (.cons 2 (.ptr 3) (.cons 3 (.ptr 4) (.nil)))))) (.cons (.row (.cons 0 (.int .i64) (.cons 1 (.slq 5 2) (.nil)))) (.cons (.row (.cons 0 (.int .i64) (.cons 1 (.slq 6 2) (.nil)))) (.cons (.row (.cons 0 (.int .i64) (.cons 1 (.nilS) (.nil)))) (.cons (.row (.cons 0 (.int .i64) (.cons 1 (.slq 7 2) (.nil)))) (.cons (.rows En 30) (.cons (.rows En 30) (.cons (.rows En 30) (.nil))))))))
noncomputable def mc2Z4 : ((List Near) × Int × Nat × Unit × Unit) → ((Unit × Unit × Unit × Unit × Unit) × (Int × (Nat × Nat) × Unit) × (Int × (Nat × Nat) × Unit) × (Int × Unit × Unit) × (Int × (Nat × Nat) × Unit) × (List Near) × (List Near) × (List Near) × Unit) → mc2Z := fun (l, (k, (s, ((), ())))) (((), ((), ((), ((), ())))), ((k1, (h1, ())), ((k2, (h2, ())), ((k3, ((), ())), ((k4, (h4, ())), (m1, (m2, (m4, ())))))))) => ((l, (k, (s, (3, ())))), (((), ((), ((), ((), ())))), ((k1, (h1, ())), ((k2, (h2, ())), ((k3, ((), ())), ((k4, (h4, ())), (m1, (m2, (m4, ())))))))))
noncomputable def mc2Fs : List (LForm mc2Z) := [⟨_, _, mc2Sl0, mc2Bl0, mc2Z0⟩, ⟨_, _, mc2Sl1, mc2Bl1, mc2Z1⟩, ⟨_, _, mc2Sl2, mc2Bl2, mc2Z2⟩, ⟨_, _, mc2Sl3, mc2Bl3, mc2Z3⟩, ⟨_, _, mc2Sl4, mc2Bl4, mc2Z4⟩]
noncomputable def mc2Alts (R0 : mc2Z → ((List Near) × Int × Nat × Unit) → ((Unit × Unit × Unit × Unit × Unit) × (Int × (Nat × Nat) × Unit) × (Int × (Nat × Nat) × Unit) × (Int × Unit × Unit) × (Int × (Nat × Nat) × Unit) × (List Near) × (List Near) × (List Near) × Unit) → Prop) (R1 : mc2Z → ((List Near) × Int × Nat × Unit) → ((Unit × Unit × Unit × Unit × Unit) × (Int × (Nat × Nat) × Unit) × (Int × (Nat × Nat) × Unit) × (Int × Unit × Unit) × (Int × Unit × Unit) × (List Near) × (List Near) × Unit) → Prop) : List (Alt mc2Z) := [⟨.exit 4, (List Near) × Int × Nat × Unit, (Unit × Unit × Unit × Unit × Unit) × (Int × (Nat × Nat) × Unit) × (Int × (Nat × Nat) × Unit) × (Int × Unit × Unit) × (Int × (Nat × Nat) × Unit) × (List Near) × (List Near) × (List Near) × Unit, .cons 0 (.lst En) (.cons 2 (.int .i64) (.cons 7 (.sl 0 1) (.nil))), .cons (.row (.cons 0 (.ptr 1) (.cons 1 (.ptr 2) (.cons 2 (.ptr 3) (.cons 3 (.ptr 4) (.nil)))))) (.cons (.row (.cons 0 (.int .i64) (.cons 1 (.slq 5 2) (.nil)))) (.cons (.row (.cons 0 (.int .i64) (.cons 1 (.slq 6 2) (.nil)))) (.cons (.row (.cons 0 (.int .i64) (.cons 1 (.nilS) (.nil)))) (.cons (.row (.cons 0 (.int .i64) (.cons 1 (.slq 7 2) (.nil)))) (.cons (.rows En 30) (.cons (.rows En 30) (.cons (.rows En 30) (.nil)))))))), R0⟩, ⟨.exit 4, (List Near) × Int × Nat × Unit, (Unit × Unit × Unit × Unit × Unit) × (Int × (Nat × Nat) × Unit) × (Int × (Nat × Nat) × Unit) × (Int × Unit × Unit) × (Int × Unit × Unit) × (List Near) × (List Near) × Unit, .cons 0 (.lst En) (.cons 2 (.int .i64) (.cons 7 (.sl 0 1) (.nil))), .cons (.row (.cons 0 (.ptr 1) (.cons 1 (.ptr 2) (.cons 2 (.ptr 3) (.cons 3 (.ptr 4) (.nil)))))) (.cons (.row (.cons 0 (.int .i64) (.cons 1 (.slq 5 2) (.nil)))) (.cons (.row (.cons 0 (.int .i64) (.cons 1 (.slq 6 2) (.nil)))) (.cons (.row (.cons 0 (.int .i64) (.cons 1 (.nilS) (.nil)))) (.cons (.row (.cons 0 (.int .i64) (.cons 1 (.nilS) (.nil)))) (.cons (.rows En 30) (.cons (.rows En 30) (.nil))))))), R1⟩]

theorem mc2Form0 (l : List Near) (k : Int) (s : Nat) (k1 : Int) (h1 : Nat × Nat) (k2 : Int) (h2 : Nat × Nat) (k3 : Int) (k4 : Int) (m1 : List Near) (m2 : List Near) (N : mc2Z → Prop) (R0 : mc2Z → ((List Near) × Int × Nat × Unit) → ((Unit × Unit × Unit × Unit × Unit) × (Int × (Nat × Nat) × Unit) × (Int × (Nat × Nat) × Unit) × (Int × Unit × Unit) × (Int × (Nat × Nat) × Unit) × (List Near) × (List Near) × (List Near) × Unit) → Prop) (R1 : mc2Z → ((List Near) × Int × Nat × Unit) → ((Unit × Unit × Unit × Unit × Unit) × (Int × (Nat × Nat) × Unit) × (Int × (Nat × Nat) × Unit) × (Int × Unit × Unit) × (Int × Unit × Unit) × (List Near) × (List Near) × Unit) → Prop) : ((runW Try.prog (KLS [(16, tlistK)] [(4, [(26, mbp2C)])] 30) 100).code none 4 122 (loopBody Try.prog 4 22) (mkT (mc2Sl0.av id (l, (k, (s, ((), ())))))) [] (stL false (mc2Bl0.obs id (((), ((), ((), ((), ())))), ((k1, (h1, ())), ((k2, (h2, ())), ((k3, ((), ())), ((k4, ((), ())), (m1, (m2, ()))))))))) (postL 0 mc2Fs (mc2Alts R0 R1) (mc2Z0 (l, (k, (s, ((), ())))) (((), ((), ((), ((), ())))), ((k1, (h1, ())), ((k2, (h2, ())), ((k3, ((), ())), ((k4, ((), ())), (m1, (m2, ())))))))) N)) =
  ( idxOk (Int.ofNat (1 : Nat)) s ∧ ((∃ l_1, FE m2 l_1 ∧ true = true ∧ list1Pre (((), ()), (k2, (h2.fst, h2.snd), ()), l_1, ()) ∧ (∀ c d, list1R0 (((), ()), (k2,
  (h2.fst, h2.snd), ()), l_1, ()) c d → LoopOk Try.prog (4 : FuncId) (122 : Nat) (loopBody Try.prog (4 : FuncId) (26 : Nat)).loop mbp2C ∧ (True ∧ True ∧ ((∃ l_2,
  VW l l_2 ∧ ∃ l, VW c.1 l ∧ False) ∨ ∃ l_2, VW l l_2 ∧ ∃ l, VW c.1 l ∧ ∃ l_3, FE m1 l_3 ∧ ∃ l_4, FE d.2.1 l_4 ∧ true = true ∧ mb21Inv ((l_2, k, s, (), l, wrapF
  IntKind.i64 ((Int.ofNat c.1.length).sub (1 : Int)), ()), ((), (), (), (), ()), (k1, (h1.fst, h1.snd), ()), (d.1.1, (d.1.2.1.fst, d.1.2.1.snd), ()), (k3, (),
  ()), (k4, ((0 : Nat), (0 : Nat)), ()), l_3, l_4, [], ()) ∧ (∀ c_1 d_1, mb21R0 ((l_2, k, s, (), l, wrapF IntKind.i64 ((Int.ofNat c.1.length).sub (1 : Int)),
  ()), ((), (), (), (), ()), (k1, (h1.fst, h1.snd), ()), (d.1.1, (d.1.2.1.fst, d.1.2.1.snd), ()), (k3, (), ()), (k4, ((0 : Nat), (0 : Nat)), ()), l_3, l_4, [],
  ()) c_1 d_1 → True ∧ ((∃ l, VW c_1.1 l ∧ False) ∨ (∃ l, VW c_1.1 l ∧ False) ∨ (∃ l, VW c_1.1 l ∧ ∃ l_5, FE d_1.2.2.2.2.2.1 l_5 ∧ ∃ l_6, FE d_1.2.2.2.2.2.2.1
  l_6 ∧ ∃ l_7, FE d_1.2.2.2.2.2.2.2.1 l_7 ∧ true = true ∧ N ((l, c_1.2.1, c_1.2.2.1, (2 : Int), ()), ((), (), (), (), ()), (d_1.2.1.1, (d_1.2.1.2.1.fst,
  d_1.2.1.2.1.snd), ()), (d_1.2.2.1.1, (d_1.2.2.1.2.1.fst, d_1.2.2.1.2.1.snd), ()), (d_1.2.2.2.1.1, (), ()), (d_1.2.2.2.2.1.1, (d_1.2.2.2.2.1.2.1.fst,
  d_1.2.2.2.2.1.2.1.snd), ()), l_5, l_6, l_7, ())) ∨ (∃ l, VW c_1.1 l ∧ False) ∨ ∃ l, VW c_1.1 l ∧ False)) ∧ (∀ c_1 d_1, mb21R1 ((l_2, k, s, (), l, wrapF
  IntKind.i64 ((Int.ofNat c.1.length).sub (1 : Int)), ()), ((), (), (), (), ()), (k1, (h1.fst, h1.snd), ()), (d.1.1, (d.1.2.1.fst, d.1.2.1.snd), ()), (k3, (),
  ()), (k4, ((0 : Nat), (0 : Nat)), ()), l_3, l_4, [], ()) c_1 d_1 → True ∧ ((∃ l, VW c_1.1 l ∧ False) ∨ (∃ l, VW c_1.1 l ∧ ∃ l_5, FE d_1.2.2.2.2.2.1 l_5 ∧ ∃
  l_6, FE d_1.2.2.2.2.2.2.1 l_6 ∧ true = true ∧ N ((l, c_1.2.1, c_1.2.2.1, (2 : Int), ()), ((), (), (), (), ()), (d_1.2.1.1, (d_1.2.1.2.1.fst, d_1.2.1.2.1.snd),
  ()), (d_1.2.2.1.1, (d_1.2.2.1.2.1.fst, d_1.2.2.1.2.1.snd), ()), (d_1.2.2.2.1.1, (), ()), (d_1.2.2.2.2.1.1, ((0 : Nat), (0 : Nat)), ()), l_5, l_6, [], ())) ∨ (∃
  l, VW c_1.1 l ∧ False) ∨ (∃ l, VW c_1.1 l ∧ False) ∨ ∃ l, VW c_1.1 l ∧ False)) ∧ True) ∨ True ∧ True ∧ ((∃ l_2, VW l l_2 ∧ False) ∨ ∃ l_2, VW l l_2 ∧ False)))
  ∧ True) ∨ False)) := by kernel_rfl

theorem mc2Form1 (l : List Near) (k : Int) (s : Nat) (k1 : Int) (h1 : Nat × Nat) (k2 : Int) (h2 : Nat × Nat) (k3 : Int) (k4 : Int) (m1 : List Near) (m2 : List Near) (N : mc2Z → Prop) (R0 : mc2Z → ((List Near) × Int × Nat × Unit) → ((Unit × Unit × Unit × Unit × Unit) × (Int × (Nat × Nat) × Unit) × (Int × (Nat × Nat) × Unit) × (Int × Unit × Unit) × (Int × (Nat × Nat) × Unit) × (List Near) × (List Near) × (List Near) × Unit) → Prop) (R1 : mc2Z → ((List Near) × Int × Nat × Unit) → ((Unit × Unit × Unit × Unit × Unit) × (Int × (Nat × Nat) × Unit) × (Int × (Nat × Nat) × Unit) × (Int × Unit × Unit) × (Int × Unit × Unit) × (List Near) × (List Near) × Unit) → Prop) : ((runW Try.prog (KLS [(16, tlistK)] [(4, [(26, mbp2C)])] 30) 100).code none 4 122 (loopBody Try.prog 4 22) (mkT (mc2Sl1.av id (l, (k, (s, ((), ())))))) [] (stL false (mc2Bl1.obs id (((), ((), ((), ((), ())))), ((k1, (h1, ())), ((k2, (h2, ())), ((k3, ((), ())), ((k4, ((), ())), (m1, (m2, ()))))))))) (postL 0 mc2Fs (mc2Alts R0 R1) (mc2Z1 (l, (k, (s, ((), ())))) (((), ((), ((), ((), ())))), ((k1, (h1, ())), ((k2, (h2, ())), ((k3, ((), ())), ((k4, ((), ())), (m1, (m2, ())))))))) N)) =
  ( idxOk (Int.ofNat (2 : Nat)) s ∧ (False ∨ true = true ∧ list0Pre (((), ()), (k3, (), ()), ()) ∧ (∀ c d, list0R0 (((), ()), (k3, (), ()), ()) c d → LoopOk
  Try.prog (4 : FuncId) (122 : Nat) (loopBody Try.prog (4 : FuncId) (26 : Nat)).loop mbp2C ∧ (True ∧ True ∧ ((∃ l_1, VW l l_1 ∧ False) ∨ ∃ l_1, VW l l_1 ∧ False)
  ∨ True ∧ True ∧ ((∃ l_1, VW l l_1 ∧ ∃ l, VW c.1 l ∧ False) ∨ ∃ l_1, VW l l_1 ∧ ∃ l, VW c.1 l ∧ ∃ l_2, FE m1 l_2 ∧ ∃ l_3, FE m2 l_3 ∧ true = true ∧ mb22Inv
  ((l_1, k, s, (), l, wrapF IntKind.i64 ((Int.ofNat c.1.length).sub (1 : Int)), ()), ((), (), (), (), ()), (k1, (h1.fst, h1.snd), ()), (k2, (h2.fst, h2.snd),
  ()), (d.1.1, (), ()), (k4, ((0 : Nat), (0 : Nat)), ()), l_2, l_3, [], ()) ∧ (∀ c_1 d_1, mb22R0 ((l_1, k, s, (), l, wrapF IntKind.i64 ((Int.ofNat
  c.1.length).sub (1 : Int)), ()), ((), (), (), (), ()), (k1, (h1.fst, h1.snd), ()), (k2, (h2.fst, h2.snd), ()), (d.1.1, (), ()), (k4, ((0 : Nat), (0 : Nat)),
  ()), l_2, l_3, [], ()) c_1 d_1 → True ∧ ((∃ l, VW c_1.1 l ∧ False) ∨ (∃ l, VW c_1.1 l ∧ False) ∨ (∃ l, VW c_1.1 l ∧ False) ∨ (∃ l, VW c_1.1 l ∧ False) ∨ ∃ l,
  VW c_1.1 l ∧ ∃ l_4, FE d_1.2.2.2.2.2.1 l_4 ∧ ∃ l_5, FE d_1.2.2.2.2.2.2.1 l_5 ∧ ∃ l_6, FE d_1.2.2.2.2.2.2.2.1 l_6 ∧ true = true ∧ N ((l, c_1.2.1, c_1.2.2.1, (3
  : Int), ()), ((), (), (), (), ()), (d_1.2.1.1, (d_1.2.1.2.1.fst, d_1.2.1.2.1.snd), ()), (d_1.2.2.1.1, (d_1.2.2.1.2.1.fst, d_1.2.2.1.2.1.snd), ()),
  (d_1.2.2.2.1.1, (), ()), (d_1.2.2.2.2.1.1, (d_1.2.2.2.2.1.2.1.fst, d_1.2.2.2.2.1.2.1.snd), ()), l_4, l_5, l_6, ()))) ∧ (∀ c_1 d_1, mb22R1 ((l_1, k, s, (), l,
  wrapF IntKind.i64 ((Int.ofNat c.1.length).sub (1 : Int)), ()), ((), (), (), (), ()), (k1, (h1.fst, h1.snd), ()), (k2, (h2.fst, h2.snd), ()), (d.1.1, (), ()),
  (k4, ((0 : Nat), (0 : Nat)), ()), l_2, l_3, [], ()) c_1 d_1 → True ∧ ((∃ l, VW c_1.1 l ∧ False) ∨ (∃ l, VW c_1.1 l ∧ False) ∨ (∃ l, VW c_1.1 l ∧ False) ∨ (∃ l,
  VW c_1.1 l ∧ ∃ l_4, FE d_1.2.2.2.2.2.1 l_4 ∧ ∃ l_5, FE d_1.2.2.2.2.2.2.1 l_5 ∧ true = true ∧ N ((l, c_1.2.1, c_1.2.2.1, (3 : Int), ()), ((), (), (), (), ()),
  (d_1.2.1.1, (d_1.2.1.2.1.fst, d_1.2.1.2.1.snd), ()), (d_1.2.2.1.1, (d_1.2.2.1.2.1.fst, d_1.2.2.1.2.1.snd), ()), (d_1.2.2.2.1.1, (), ()), (d_1.2.2.2.2.1.1, ((0
  : Nat), (0 : Nat)), ()), l_4, l_5, [], ())) ∨ ∃ l, VW c_1.1 l ∧ False)) ∧ True))) ∧ True)) := by kernel_rfl

theorem mc2Form2 (l : List Near) (k : Int) (s : Nat) (k1 : Int) (h1 : Nat × Nat) (k2 : Int) (h2 : Nat × Nat) (k3 : Int) (k4 : Int) (h4 : Nat × Nat) (m1 : List Near) (m2 : List Near) (m4 : List Near) (N : mc2Z → Prop) (R0 : mc2Z → ((List Near) × Int × Nat × Unit) → ((Unit × Unit × Unit × Unit × Unit) × (Int × (Nat × Nat) × Unit) × (Int × (Nat × Nat) × Unit) × (Int × Unit × Unit) × (Int × (Nat × Nat) × Unit) × (List Near) × (List Near) × (List Near) × Unit) → Prop) (R1 : mc2Z → ((List Near) × Int × Nat × Unit) → ((Unit × Unit × Unit × Unit × Unit) × (Int × (Nat × Nat) × Unit) × (Int × (Nat × Nat) × Unit) × (Int × Unit × Unit) × (Int × Unit × Unit) × (List Near) × (List Near) × Unit) → Prop) : ((runW Try.prog (KLS [(16, tlistK)] [(4, [(26, mbp2C)])] 30) 100).code none 4 122 (loopBody Try.prog 4 22) (mkT (mc2Sl2.av id (l, (k, (s, ((), ())))))) [] (stL false (mc2Bl2.obs id (((), ((), ((), ((), ())))), ((k1, (h1, ())), ((k2, (h2, ())), ((k3, ((), ())), ((k4, (h4, ())), (m1, (m2, (m4, ())))))))))) (postL 0 mc2Fs (mc2Alts R0 R1) (mc2Z2 (l, (k, (s, ((), ())))) (((), ((), ((), ((), ())))), ((k1, (h1, ())), ((k2, (h2, ())), ((k3, ((), ())), ((k4, (h4, ())), (m1, (m2, (m4, ()))))))))) N)) =
  ( idxOk (Int.ofNat (2 : Nat)) s ∧ (False ∨ true = true ∧ list0Pre (((), ()), (k3, (), ()), ()) ∧ (∀ c d, list0R0 (((), ()), (k3, (), ()), ()) c d → LoopOk
  Try.prog (4 : FuncId) (122 : Nat) (loopBody Try.prog (4 : FuncId) (26 : Nat)).loop mbp2C ∧ (True ∧ True ∧ ((∃ l_1, VW l l_1 ∧ False) ∨ ∃ l_1, VW l l_1 ∧ False)
  ∨ True ∧ True ∧ ((∃ l_1, VW l l_1 ∧ ∃ l, VW c.1 l ∧ ∃ l_2, FE m1 l_2 ∧ ∃ l_3, FE m2 l_3 ∧ ∃ l_4, FE m4 l_4 ∧ true = true ∧ mb22Inv ((l_1, k, s, (), l, wrapF
  IntKind.i64 ((Int.ofNat c.1.length).sub (1 : Int)), ()), ((), (), (), (), ()), (k1, (h1.fst, h1.snd), ()), (k2, (h2.fst, h2.snd), ()), (d.1.1, (), ()), (k4,
  (h4.fst, h4.snd), ()), l_2, l_3, l_4, ()) ∧ (∀ c_1 d_1, mb22R0 ((l_1, k, s, (), l, wrapF IntKind.i64 ((Int.ofNat c.1.length).sub (1 : Int)), ()), ((), (), (),
  (), ()), (k1, (h1.fst, h1.snd), ()), (k2, (h2.fst, h2.snd), ()), (d.1.1, (), ()), (k4, (h4.fst, h4.snd), ()), l_2, l_3, l_4, ()) c_1 d_1 → True ∧ ((∃ l, VW
  c_1.1 l ∧ False) ∨ (∃ l, VW c_1.1 l ∧ False) ∨ (∃ l, VW c_1.1 l ∧ False) ∨ (∃ l, VW c_1.1 l ∧ False) ∨ ∃ l, VW c_1.1 l ∧ ∃ l_5, FE d_1.2.2.2.2.2.1 l_5 ∧ ∃ l_6,
  FE d_1.2.2.2.2.2.2.1 l_6 ∧ ∃ l_7, FE d_1.2.2.2.2.2.2.2.1 l_7 ∧ true = true ∧ N ((l, c_1.2.1, c_1.2.2.1, (3 : Int), ()), ((), (), (), (), ()), (d_1.2.1.1,
  (d_1.2.1.2.1.fst, d_1.2.1.2.1.snd), ()), (d_1.2.2.1.1, (d_1.2.2.1.2.1.fst, d_1.2.2.1.2.1.snd), ()), (d_1.2.2.2.1.1, (), ()), (d_1.2.2.2.2.1.1,
  (d_1.2.2.2.2.1.2.1.fst, d_1.2.2.2.2.1.2.1.snd), ()), l_5, l_6, l_7, ()))) ∧ (∀ c_1 d_1, mb22R1 ((l_1, k, s, (), l, wrapF IntKind.i64 ((Int.ofNat
  c.1.length).sub (1 : Int)), ()), ((), (), (), (), ()), (k1, (h1.fst, h1.snd), ()), (k2, (h2.fst, h2.snd), ()), (d.1.1, (), ()), (k4, (h4.fst, h4.snd), ()),
  l_2, l_3, l_4, ()) c_1 d_1 → True ∧ ((∃ l, VW c_1.1 l ∧ False) ∨ (∃ l, VW c_1.1 l ∧ False) ∨ (∃ l, VW c_1.1 l ∧ False) ∨ (∃ l, VW c_1.1 l ∧ ∃ l_5, FE
  d_1.2.2.2.2.2.1 l_5 ∧ ∃ l_6, FE d_1.2.2.2.2.2.2.1 l_6 ∧ true = true ∧ N ((l, c_1.2.1, c_1.2.2.1, (3 : Int), ()), ((), (), (), (), ()), (d_1.2.1.1,
  (d_1.2.1.2.1.fst, d_1.2.1.2.1.snd), ()), (d_1.2.2.1.1, (d_1.2.2.1.2.1.fst, d_1.2.2.1.2.1.snd), ()), (d_1.2.2.2.1.1, (), ()), (d_1.2.2.2.2.1.1, ((0 : Nat), (0 :
  Nat)), ()), l_5, l_6, [], ())) ∨ ∃ l, VW c_1.1 l ∧ False)) ∧ True) ∨ ∃ l_1, VW l l_1 ∧ ∃ l, VW c.1 l ∧ False))) ∧ True)) := by kernel_rfl

theorem mc2Form3 (l : List Near) (k : Int) (s : Nat) (k1 : Int) (h1 : Nat × Nat) (k2 : Int) (h2 : Nat × Nat) (k3 : Int) (k4 : Int) (m1 : List Near) (m2 : List Near) (N : mc2Z → Prop) (R0 : mc2Z → ((List Near) × Int × Nat × Unit) → ((Unit × Unit × Unit × Unit × Unit) × (Int × (Nat × Nat) × Unit) × (Int × (Nat × Nat) × Unit) × (Int × Unit × Unit) × (Int × (Nat × Nat) × Unit) × (List Near) × (List Near) × (List Near) × Unit) → Prop) (R1 : mc2Z → ((List Near) × Int × Nat × Unit) → ((Unit × Unit × Unit × Unit × Unit) × (Int × (Nat × Nat) × Unit) × (Int × (Nat × Nat) × Unit) × (Int × Unit × Unit) × (Int × Unit × Unit) × (List Near) × (List Near) × Unit) → Prop) : ((runW Try.prog (KLS [(16, tlistK)] [(4, [(26, mbp2C)])] 30) 100).code none 4 122 (loopBody Try.prog 4 22) (mkT (mc2Sl3.av id (l, (k, (s, ((), ())))))) [] (stL false (mc2Bl3.obs id (((), ((), ((), ((), ())))), ((k1, (h1, ())), ((k2, (h2, ())), ((k3, ((), ())), ((k4, ((), ())), (m1, (m2, ()))))))))) (postL 0 mc2Fs (mc2Alts R0 R1) (mc2Z3 (l, (k, (s, ((), ())))) (((), ((), ((), ((), ())))), ((k1, (h1, ())), ((k2, (h2, ())), ((k3, ((), ())), ((k4, ((), ())), (m1, (m2, ())))))))) N)) =
  ( (True ∧ ∃ l_1, VW l l_1 ∧ False) ∨ True ∧ ∃ l_1, VW l l_1 ∧ ∃ l_2, FE m1 l_2 ∧ ∃ l_3, FE m2 l_3 ∧ true = true ∧ R1 ((l, k, s, (3 : Int), ()), ((), (), (), (),
  ()), (k1, h1, ()), (k2, h2, ()), (k3, (), ()), (k4, ((0 : Nat), (0 : Nat)), ()), m1, m2, [], ()) (l_1, k, s, ()) (((), (), (), (), ()), (k1, (h1.fst, h1.snd),
  ()), (k2, (h2.fst, h2.snd), ()), (k3, (), ()), (k4, (), ()), l_2, l_3, ())) := by kernel_rfl

theorem mc2Form4 (l : List Near) (k : Int) (s : Nat) (k1 : Int) (h1 : Nat × Nat) (k2 : Int) (h2 : Nat × Nat) (k3 : Int) (k4 : Int) (h4 : Nat × Nat) (m1 : List Near) (m2 : List Near) (m4 : List Near) (N : mc2Z → Prop) (R0 : mc2Z → ((List Near) × Int × Nat × Unit) → ((Unit × Unit × Unit × Unit × Unit) × (Int × (Nat × Nat) × Unit) × (Int × (Nat × Nat) × Unit) × (Int × Unit × Unit) × (Int × (Nat × Nat) × Unit) × (List Near) × (List Near) × (List Near) × Unit) → Prop) (R1 : mc2Z → ((List Near) × Int × Nat × Unit) → ((Unit × Unit × Unit × Unit × Unit) × (Int × (Nat × Nat) × Unit) × (Int × (Nat × Nat) × Unit) × (Int × Unit × Unit) × (Int × Unit × Unit) × (List Near) × (List Near) × Unit) → Prop) : ((runW Try.prog (KLS [(16, tlistK)] [(4, [(26, mbp2C)])] 30) 100).code none 4 122 (loopBody Try.prog 4 22) (mkT (mc2Sl4.av id (l, (k, (s, ((), ())))))) [] (stL false (mc2Bl4.obs id (((), ((), ((), ((), ())))), ((k1, (h1, ())), ((k2, (h2, ())), ((k3, ((), ())), ((k4, (h4, ())), (m1, (m2, (m4, ())))))))))) (postL 0 mc2Fs (mc2Alts R0 R1) (mc2Z4 (l, (k, (s, ((), ())))) (((), ((), ((), ((), ())))), ((k1, (h1, ())), ((k2, (h2, ())), ((k3, ((), ())), ((k4, (h4, ())), (m1, (m2, (m4, ()))))))))) N)) =
  ( (True ∧ ∃ l_1, VW l l_1 ∧ ∃ l_2, FE m1 l_2 ∧ ∃ l_3, FE m2 l_3 ∧ ∃ l_4, FE m4 l_4 ∧ true = true ∧ R0 ((l, k, s, (3 : Int), ()), ((), (), (), (), ()), (k1, h1,
  ()), (k2, h2, ()), (k3, (), ()), (k4, h4, ()), m1, m2, m4, ()) (l_1, k, s, ()) (((), (), (), (), ()), (k1, (h1.fst, h1.snd), ()), (k2, (h2.fst, h2.snd), ()),
  (k3, (), ()), (k4, (h4.fst, h4.snd), ()), l_2, l_3, l_4, ())) ∨ True ∧ ∃ l_1, VW l l_1 ∧ False) := by kernel_rfl

def mc2Inv : mc2Z → Prop := fun ((l, (k, (s, (o, ())))), (((), ((), ((), ((), ())))), ((k1, (h1, ())), ((k2, (h2, ())), ((k3, ((), ())), ((k4, (h4, ())), (m1, (m2, (m4, ()))))))))) => s = 4 ∧ l.length ≤ 150 ∧ 0 ≤ k ∧ k ≤ 150 ∧ k1 = k ∧ k2 = k ∧ k3 = k ∧ k4 = k ∧ h1 = (m1.length, m1.length) ∧ h2 = (m2.length, m2.length) ∧ h4 = (m4.length, m4.length) ∧ ∃ u : Nat, MaR k l u m1 m2 [] ∧ TopOk k m4 (topL k (McX k l u o))
def mc2Mu : mc2Z → Nat := fun ((l, (k, (s, (o, ())))), (((), ((), ((), ((), ())))), ((k1, (h1, ())), ((k2, (h2, ())), ((k3, ((), ())), ((k4, (h4, ())), (m1, (m2, (m4, ()))))))))) => (3 - o).toNat
def mc2R0 : mc2Z → ((List Near) × Int × Nat × Unit) → ((Unit × Unit × Unit × Unit × Unit) × (Int × (Nat × Nat) × Unit) × (Int × (Nat × Nat) × Unit) × (Int × Unit × Unit) × (Int × (Nat × Nat) × Unit) × (List Near) × (List Near) × (List Near) × Unit) → Prop := fun ((l, (k, (s, (o, ())))), (((), ((), ((), ((), ())))), ((k1, (h1, ())), ((k2, (h2, ())), ((k3, ((), ())), ((k4, (h4, ())), (m1, (m2, (m4, ()))))))))) (l2, y, s2, _) (_, (x1, g1, _), (x2, g2, _), (x3, _), (x4, g4, _), n1, n2, n4, _) => l2 = l ∧ y = k ∧ s2 = 4 ∧ x1 = k ∧ x4 = k ∧ 0 ≤ k ∧ k ≤ 150 ∧ l.length ≤ 150 ∧ g1 = (n1.length, n1.length) ∧ g4 = (n4.length, n4.length) ∧ TopOk k n1 (topL k l) ∧ TopOk k n4 (topL k l)
def mc2R1 : mc2Z → ((List Near) × Int × Nat × Unit) → ((Unit × Unit × Unit × Unit × Unit) × (Int × (Nat × Nat) × Unit) × (Int × (Nat × Nat) × Unit) × (Int × Unit × Unit) × (Int × Unit × Unit) × (List Near) × (List Near) × Unit) → Prop := fun ((l, (k, (s, (o, ())))), (((), ((), ((), ((), ())))), ((k1, (h1, ())), ((k2, (h2, ())), ((k3, ((), ())), ((k4, (h4, ())), (m1, (m2, (m4, ()))))))))) (l2, y, s2, _) (_, (x1, g1, _), (x2, g2, _), (x3, _), (x4, _), n1, n2, _) => l2 = l ∧ y = k ∧ s2 = 4 ∧ x1 = k ∧ x4 = k ∧ 0 ≤ k ∧ k ≤ 150 ∧ l.length ≤ 150 ∧ g1 = (n1.length, n1.length) ∧ TopOk k n1 (topL k l) ∧ TopOk k [] (topL k l)
noncomputable def mc2C : LoopC := loopC 0 mc2Fs (mc2Alts mc2R0 mc2R1) mc2Inv

theorem mc2Step0 : stepsOk Try.prog (KLS [(16, tlistK)] [(4, [(26, mbp2C)])] 30) 100 4 122 (loopBody Try.prog 4 22) 0 false mc2Fs (mc2Alts mc2R0 mc2R1) mc2Inv mc2Mu ⟨_, _, mc2Sl0, mc2Bl0, mc2Z0⟩ := by
  intro x y hz
  obtain ⟨l, k, s, _, _⟩ := x
  obtain ⟨⟨_, _, _, _, _⟩, ⟨k1, h1, _⟩, ⟨k2, h2, _⟩, ⟨k3, _, _⟩, ⟨k4, _, _⟩, m1, m2, _⟩ := y
  refine (mc2Form0 l k s k1 h1 k2 h2 k3 k4 m1 m2 _ _ _).mpr ?_
  obtain ⟨hs, hl, k0, kle, q1, q2, q3, q4, g1, g2, g4, u, hM, hT⟩ := hz
  obtain rfl : s = 4 := hs
  obtain rfl : k = k1 := q1.symm
  obtain rfl : k = k2 := q2.symm
  obtain rfl : k = k3 := q3.symm
  obtain rfl : k = k4 := q4.symm
  obtain rfl : h1 = (m1.length, m1.length) := g1
  obtain rfl : h2 = (m2.length, m2.length) := g2
  have hP : TopOk k m2 (topL k (l.take u)) := hM.2.1
  have hPl := hP.len
  have hPk := hP.l
  refine ⟨⟨by decide, by decide⟩, Or.inl ⟨m2, rfl, (by first | exact trivial | exact rfl), ⟨rfl, by omega⟩, fun c d hr => ?_, trivial⟩⟩
  obtain ⟨x, _⟩ := c
  obtain ⟨⟨kx, gx, _⟩, mx, _⟩ := d
  obtain ⟨hx, hk2, hg2, hm2⟩ := hr
  obtain rfl : k = kx := hk2.symm
  obtain rfl : gx = (m2.length, m2.length) := hg2
  obtain rfl : m2 = mx := hm2.symm
  replace hx : x = topL k (l.take u) := hx.trans hP.list
  have hxl : x.length ≤ 150 := by rw [hx]; omega
  have ew : wrapF .i64 (Int.sub (Int.ofNat x.length) 1) = (x.length : Int) - 1 := by
    show wrapF .i64 (Int.sub (x.length : Int) 1) = _
    rw [wsub (by omega) (by omega)]
  refine ⟨mbp2Ok, Or.inl ⟨trivial, trivial, Or.inr ⟨l, Wk.refl _, x, Wk.refl _, m1, rfl, m2, rfl, (by first | exact trivial | exact rfl), ⟨x.length, ew, Nat.le_refl _, hxl, rfl, k0, kle, rfl, rfl, rfl, rfl, rfl, rfl, rfl, _, hT⟩, fun c1 d1 hr1 => ?_, fun c1 d1 hr1 => ?_, trivial⟩⟩⟩
  · obtain ⟨l2, y, s2, _, _⟩ := c1
    obtain ⟨_, ⟨x1, g1, _⟩, ⟨x2, g2, _⟩, ⟨x3, _⟩, ⟨x4, g4, _⟩, n1, n2, n4, _⟩ := d1
    obtain ⟨hl2, hy, hs2, hx1, hx2, hx3, hx4, hg1, hn1, hg2, hn2, hg4, hA⟩ := hr1
    obtain rfl : l = l2 := hl2.symm
    obtain rfl : k = y := hy.symm
    obtain rfl : s2 = 4 := hs2
    obtain rfl : k = x1 := hx1.symm
    obtain rfl : k = x2 := hx2.symm
    obtain rfl : k = x3 := hx3.symm
    obtain rfl : k = x4 := hx4.symm
    obtain rfl : m1 = n1 := hn1.symm
    obtain rfl : g1 = (m1.length, m1.length) := hg1
    obtain rfl : m2 = n2 := hn2.symm
    obtain rfl : g2 = (m2.length, m2.length) := hg2
    obtain rfl : g4 = (n4.length, n4.length) := hg4
    have hB := hA _ hT
    rw [ew, show ((x.length : Int) - 1 + 1).toNat = x.length by omega, List.take_length, hx] at hB
    exact ⟨trivial, Or.inr (Or.inr (Or.inl ⟨l, Wk.refl _, m1, rfl, m2, rfl, n4, rfl, (by first | exact trivial | exact rfl), ⟨rfl, hl, k0, kle, rfl, rfl, rfl, rfl, rfl, rfl, rfl, u, hM, hB⟩, by show (3 - (2 : Int)).toNat < (3 - (1 : Int)).toNat; decide, fun _ _ h => h, fun _ _ h => h, trivial⟩))⟩
  · obtain ⟨l2, y, s2, _, _⟩ := c1
    obtain ⟨_, ⟨x1, g1, _⟩, ⟨x2, g2, _⟩, ⟨x3, _⟩, ⟨x4, _⟩, n1, n2, _⟩ := d1
    obtain ⟨hl2, hy, hs2, hx1, hx2, hx3, hx4, hg1, hn1, hg2, hn2, hA⟩ := hr1
    obtain rfl : l = l2 := hl2.symm
    obtain rfl : k = y := hy.symm
    obtain rfl : s2 = 4 := hs2
    obtain rfl : k = x1 := hx1.symm
    obtain rfl : k = x2 := hx2.symm
    obtain rfl : k = x3 := hx3.symm
    obtain rfl : k = x4 := hx4.symm
    obtain rfl : m1 = n1 := hn1.symm
    obtain rfl : g1 = (m1.length, m1.length) := hg1
    obtain rfl : m2 = n2 := hn2.symm
    obtain rfl : g2 = (m2.length, m2.length) := hg2
    have hB := hA _ hT
    rw [ew, show ((x.length : Int) - 1 + 1).toNat = x.length by omega, List.take_length, hx] at hB
    exact ⟨trivial, Or.inr (Or.inl ⟨l, Wk.refl _, m1, rfl, m2, rfl, (by first | exact trivial | exact rfl), ⟨rfl, hl, k0, kle, rfl, rfl, rfl, rfl, rfl, rfl, rfl, u, hM, hB⟩, by show (3 - (2 : Int)).toNat < (3 - (1 : Int)).toNat; decide, fun _ _ h => h, fun _ _ h => h, trivial⟩)⟩
theorem mc2Step1 : stepsOk Try.prog (KLS [(16, tlistK)] [(4, [(26, mbp2C)])] 30) 100 4 122 (loopBody Try.prog 4 22) 0 false mc2Fs (mc2Alts mc2R0 mc2R1) mc2Inv mc2Mu ⟨_, _, mc2Sl1, mc2Bl1, mc2Z1⟩ := by
  intro x y hz
  obtain ⟨l, k, s, _, _⟩ := x
  obtain ⟨⟨_, _, _, _, _⟩, ⟨k1, h1, _⟩, ⟨k2, h2, _⟩, ⟨k3, _, _⟩, ⟨k4, _, _⟩, m1, m2, _⟩ := y
  refine (mc2Form1 l k s k1 h1 k2 h2 k3 k4 m1 m2 _ _ _).mpr ?_
  obtain ⟨hs, hl, k0, kle, q1, q2, q3, q4, g1, g2, g4, u, hM, hT⟩ := hz
  obtain rfl : s = 4 := hs
  obtain rfl : k = k1 := q1.symm
  obtain rfl : k = k2 := q2.symm
  obtain rfl : k = k3 := q3.symm
  obtain rfl : k = k4 := q4.symm
  obtain rfl : h1 = (m1.length, m1.length) := g1
  obtain rfl : h2 = (m2.length, m2.length) := g2
  have hP : TopOk k [] (topL k (l.drop u)) := hM.2.2
  have hPl := hP.len
  have hPk := hP.l
  refine ⟨⟨by decide, by decide⟩, Or.inr ⟨(by first | exact trivial | exact rfl), trivial, fun c d hr => ?_, trivial⟩⟩
  obtain ⟨x, _⟩ := c
  obtain ⟨⟨kx, _⟩, _⟩ := d
  obtain ⟨hx, hk2⟩ := hr
  obtain rfl : k = kx := hk2.symm
  replace hx : x = topL k (l.drop u) := hx.trans (List.length_eq_zero_iff.1 hPl.symm).symm
  have hxl : x.length ≤ 150 := by rw [hx]; omega
  have ew : wrapF .i64 (Int.sub (Int.ofNat x.length) 1) = (x.length : Int) - 1 := by
    show wrapF .i64 (Int.sub (x.length : Int) 1) = _
    rw [wsub (by omega) (by omega)]
  refine ⟨mbp2Ok, Or.inr ⟨trivial, trivial, Or.inr ⟨l, Wk.refl _, x, Wk.refl _, m1, rfl, m2, rfl, (by first | exact trivial | exact rfl), ⟨x.length, ew, Nat.le_refl _, hxl, rfl, k0, kle, rfl, rfl, rfl, rfl, rfl, rfl, rfl, _, hT⟩, fun c1 d1 hr1 => ?_, fun c1 d1 hr1 => ?_, trivial⟩⟩⟩
  · obtain ⟨l2, y, s2, _, _⟩ := c1
    obtain ⟨_, ⟨x1, g1, _⟩, ⟨x2, g2, _⟩, ⟨x3, _⟩, ⟨x4, g4, _⟩, n1, n2, n4, _⟩ := d1
    obtain ⟨hl2, hy, hs2, hx1, hx2, hx3, hx4, hg1, hn1, hg2, hn2, hg4, hA⟩ := hr1
    obtain rfl : l = l2 := hl2.symm
    obtain rfl : k = y := hy.symm
    obtain rfl : s2 = 4 := hs2
    obtain rfl : k = x1 := hx1.symm
    obtain rfl : k = x2 := hx2.symm
    obtain rfl : k = x3 := hx3.symm
    obtain rfl : k = x4 := hx4.symm
    obtain rfl : m1 = n1 := hn1.symm
    obtain rfl : g1 = (m1.length, m1.length) := hg1
    obtain rfl : m2 = n2 := hn2.symm
    obtain rfl : g2 = (m2.length, m2.length) := hg2
    obtain rfl : g4 = (n4.length, n4.length) := hg4
    have hB := hA _ hT
    rw [ew, show ((x.length : Int) - 1 + 1).toNat = x.length by omega, List.take_length, hx] at hB
    exact ⟨trivial, Or.inr (Or.inr (Or.inr (Or.inr ⟨l, Wk.refl _, m1, rfl, m2, rfl, n4, rfl, (by first | exact trivial | exact rfl), ⟨rfl, hl, k0, kle, rfl, rfl, rfl, rfl, rfl, rfl, rfl, u, hM, hB⟩, by show (3 - (3 : Int)).toNat < (3 - (2 : Int)).toNat; decide, fun _ _ h => h, fun _ _ h => h, trivial⟩)))⟩
  · obtain ⟨l2, y, s2, _, _⟩ := c1
    obtain ⟨_, ⟨x1, g1, _⟩, ⟨x2, g2, _⟩, ⟨x3, _⟩, ⟨x4, _⟩, n1, n2, _⟩ := d1
    obtain ⟨hl2, hy, hs2, hx1, hx2, hx3, hx4, hg1, hn1, hg2, hn2, hA⟩ := hr1
    obtain rfl : l = l2 := hl2.symm
    obtain rfl : k = y := hy.symm
    obtain rfl : s2 = 4 := hs2
    obtain rfl : k = x1 := hx1.symm
    obtain rfl : k = x2 := hx2.symm
    obtain rfl : k = x3 := hx3.symm
    obtain rfl : k = x4 := hx4.symm
    obtain rfl : m1 = n1 := hn1.symm
    obtain rfl : g1 = (m1.length, m1.length) := hg1
    obtain rfl : m2 = n2 := hn2.symm
    obtain rfl : g2 = (m2.length, m2.length) := hg2
    have hB := hA _ hT
    rw [ew, show ((x.length : Int) - 1 + 1).toNat = x.length by omega, List.take_length, hx] at hB
    exact ⟨trivial, Or.inr (Or.inr (Or.inr (Or.inl ⟨l, Wk.refl _, m1, rfl, m2, rfl, (by first | exact trivial | exact rfl), ⟨rfl, hl, k0, kle, rfl, rfl, rfl, rfl, rfl, rfl, rfl, u, hM, hB⟩, by show (3 - (3 : Int)).toNat < (3 - (2 : Int)).toNat; decide, fun _ _ h => h, fun _ _ h => h, trivial⟩)))⟩
theorem mc2Step2 : stepsOk Try.prog (KLS [(16, tlistK)] [(4, [(26, mbp2C)])] 30) 100 4 122 (loopBody Try.prog 4 22) 0 false mc2Fs (mc2Alts mc2R0 mc2R1) mc2Inv mc2Mu ⟨_, _, mc2Sl2, mc2Bl2, mc2Z2⟩ := by
  intro x y hz
  obtain ⟨l, k, s, _, _⟩ := x
  obtain ⟨⟨_, _, _, _, _⟩, ⟨k1, h1, _⟩, ⟨k2, h2, _⟩, ⟨k3, _, _⟩, ⟨k4, h4, _⟩, m1, m2, m4, _⟩ := y
  refine (mc2Form2 l k s k1 h1 k2 h2 k3 k4 h4 m1 m2 m4 _ _ _).mpr ?_
  obtain ⟨hs, hl, k0, kle, q1, q2, q3, q4, g1, g2, g4, u, hM, hT⟩ := hz
  obtain rfl : s = 4 := hs
  obtain rfl : k = k1 := q1.symm
  obtain rfl : k = k2 := q2.symm
  obtain rfl : k = k3 := q3.symm
  obtain rfl : k = k4 := q4.symm
  obtain rfl : h1 = (m1.length, m1.length) := g1
  obtain rfl : h2 = (m2.length, m2.length) := g2
  obtain rfl : h4 = (m4.length, m4.length) := g4
  have hP : TopOk k [] (topL k (l.drop u)) := hM.2.2
  have hPl := hP.len
  have hPk := hP.l
  refine ⟨⟨by decide, by decide⟩, Or.inr ⟨(by first | exact trivial | exact rfl), trivial, fun c d hr => ?_, trivial⟩⟩
  obtain ⟨x, _⟩ := c
  obtain ⟨⟨kx, _⟩, _⟩ := d
  obtain ⟨hx, hk2⟩ := hr
  obtain rfl : k = kx := hk2.symm
  replace hx : x = topL k (l.drop u) := hx.trans (List.length_eq_zero_iff.1 hPl.symm).symm
  have hxl : x.length ≤ 150 := by rw [hx]; omega
  have ew : wrapF .i64 (Int.sub (Int.ofNat x.length) 1) = (x.length : Int) - 1 := by
    show wrapF .i64 (Int.sub (x.length : Int) 1) = _
    rw [wsub (by omega) (by omega)]
  refine ⟨mbp2Ok, Or.inr ⟨trivial, trivial, Or.inl ⟨l, Wk.refl _, x, Wk.refl _, m1, rfl, m2, rfl, m4, rfl, (by first | exact trivial | exact rfl), ⟨x.length, ew, Nat.le_refl _, hxl, rfl, k0, kle, rfl, rfl, rfl, rfl, rfl, rfl, rfl, _, hT⟩, fun c1 d1 hr1 => ?_, fun c1 d1 hr1 => ?_, trivial⟩⟩⟩
  · obtain ⟨l2, y, s2, _, _⟩ := c1
    obtain ⟨_, ⟨x1, g1, _⟩, ⟨x2, g2, _⟩, ⟨x3, _⟩, ⟨x4, g4, _⟩, n1, n2, n4, _⟩ := d1
    obtain ⟨hl2, hy, hs2, hx1, hx2, hx3, hx4, hg1, hn1, hg2, hn2, hg4, hA⟩ := hr1
    obtain rfl : l = l2 := hl2.symm
    obtain rfl : k = y := hy.symm
    obtain rfl : s2 = 4 := hs2
    obtain rfl : k = x1 := hx1.symm
    obtain rfl : k = x2 := hx2.symm
    obtain rfl : k = x3 := hx3.symm
    obtain rfl : k = x4 := hx4.symm
    obtain rfl : m1 = n1 := hn1.symm
    obtain rfl : g1 = (m1.length, m1.length) := hg1
    obtain rfl : m2 = n2 := hn2.symm
    obtain rfl : g2 = (m2.length, m2.length) := hg2
    obtain rfl : g4 = (n4.length, n4.length) := hg4
    have hB := hA _ hT
    rw [ew, show ((x.length : Int) - 1 + 1).toNat = x.length by omega, List.take_length, hx] at hB
    exact ⟨trivial, Or.inr (Or.inr (Or.inr (Or.inr ⟨l, Wk.refl _, m1, rfl, m2, rfl, n4, rfl, (by first | exact trivial | exact rfl), ⟨rfl, hl, k0, kle, rfl, rfl, rfl, rfl, rfl, rfl, rfl, u, hM, hB⟩, by show (3 - (3 : Int)).toNat < (3 - (2 : Int)).toNat; decide, fun _ _ h => h, fun _ _ h => h, trivial⟩)))⟩
  · obtain ⟨l2, y, s2, _, _⟩ := c1
    obtain ⟨_, ⟨x1, g1, _⟩, ⟨x2, g2, _⟩, ⟨x3, _⟩, ⟨x4, _⟩, n1, n2, _⟩ := d1
    obtain ⟨hl2, hy, hs2, hx1, hx2, hx3, hx4, hg1, hn1, hg2, hn2, hA⟩ := hr1
    obtain rfl : l = l2 := hl2.symm
    obtain rfl : k = y := hy.symm
    obtain rfl : s2 = 4 := hs2
    obtain rfl : k = x1 := hx1.symm
    obtain rfl : k = x2 := hx2.symm
    obtain rfl : k = x3 := hx3.symm
    obtain rfl : k = x4 := hx4.symm
    obtain rfl : m1 = n1 := hn1.symm
    obtain rfl : g1 = (m1.length, m1.length) := hg1
    obtain rfl : m2 = n2 := hn2.symm
    obtain rfl : g2 = (m2.length, m2.length) := hg2
    have hB := hA _ hT
    rw [ew, show ((x.length : Int) - 1 + 1).toNat = x.length by omega, List.take_length, hx] at hB
    exact ⟨trivial, Or.inr (Or.inr (Or.inr (Or.inl ⟨l, Wk.refl _, m1, rfl, m2, rfl, (by first | exact trivial | exact rfl), ⟨rfl, hl, k0, kle, rfl, rfl, rfl, rfl, rfl, rfl, rfl, u, hM, hB⟩, by show (3 - (3 : Int)).toNat < (3 - (2 : Int)).toNat; decide, fun _ _ h => h, fun _ _ h => h, trivial⟩)))⟩
theorem mc2Step3 : stepsOk Try.prog (KLS [(16, tlistK)] [(4, [(26, mbp2C)])] 30) 100 4 122 (loopBody Try.prog 4 22) 0 false mc2Fs (mc2Alts mc2R0 mc2R1) mc2Inv mc2Mu ⟨_, _, mc2Sl3, mc2Bl3, mc2Z3⟩ := by
  intro x y hz
  obtain ⟨l, k, s, _, _⟩ := x
  obtain ⟨⟨_, _, _, _, _⟩, ⟨k1, h1, _⟩, ⟨k2, h2, _⟩, ⟨k3, _, _⟩, ⟨k4, _, _⟩, m1, m2, _⟩ := y
  refine (mc2Form3 l k s k1 h1 k2 h2 k3 k4 m1 m2 _ _ _).mpr ?_
  obtain ⟨hs, hl, k0, kle, q1, q2, q3, q4, g1, g2, g4, u, hM, hT⟩ := hz
  obtain rfl : s = 4 := hs
  obtain rfl : k = k1 := q1.symm
  obtain rfl : k = k2 := q2.symm
  obtain rfl : k = k3 := q3.symm
  obtain rfl : k = k4 := q4.symm
  obtain rfl : h1 = (m1.length, m1.length) := g1
  obtain rfl : h2 = (m2.length, m2.length) := g2
  have hT2 : TopOk k [] (topL k (([] ++ (topL k (l.take u)).reverse) ++ (topL k (l.drop u)).reverse)) := hT
  rw [top_parts] at hT2
  exact Or.inr ⟨trivial, l, Wk.refl _, m1, rfl, m2, rfl, (by first | exact trivial | exact rfl), rfl, rfl, rfl, rfl, rfl, k0, kle, hl, rfl, hM.1, hT2⟩
theorem mc2Step4 : stepsOk Try.prog (KLS [(16, tlistK)] [(4, [(26, mbp2C)])] 30) 100 4 122 (loopBody Try.prog 4 22) 0 false mc2Fs (mc2Alts mc2R0 mc2R1) mc2Inv mc2Mu ⟨_, _, mc2Sl4, mc2Bl4, mc2Z4⟩ := by
  intro x y hz
  obtain ⟨l, k, s, _, _⟩ := x
  obtain ⟨⟨_, _, _, _, _⟩, ⟨k1, h1, _⟩, ⟨k2, h2, _⟩, ⟨k3, _, _⟩, ⟨k4, h4, _⟩, m1, m2, m4, _⟩ := y
  refine (mc2Form4 l k s k1 h1 k2 h2 k3 k4 h4 m1 m2 m4 _ _ _).mpr ?_
  obtain ⟨hs, hl, k0, kle, q1, q2, q3, q4, g1, g2, g4, u, hM, hT⟩ := hz
  obtain rfl : s = 4 := hs
  obtain rfl : k = k1 := q1.symm
  obtain rfl : k = k2 := q2.symm
  obtain rfl : k = k3 := q3.symm
  obtain rfl : k = k4 := q4.symm
  obtain rfl : h1 = (m1.length, m1.length) := g1
  obtain rfl : h2 = (m2.length, m2.length) := g2
  obtain rfl : h4 = (m4.length, m4.length) := g4
  have hT2 : TopOk k m4 (topL k (([] ++ (topL k (l.take u)).reverse) ++ (topL k (l.drop u)).reverse)) := hT
  rw [top_parts] at hT2
  exact Or.inl ⟨trivial, l, Wk.refl _, m1, rfl, m2, rfl, m4, rfl, (by first | exact trivial | exact rfl), rfl, rfl, rfl, rfl, rfl, k0, kle, hl, rfl, rfl, hM.1, hT2⟩
theorem mc2Ok : LoopOk Try.prog 4 122 (.loop (loopBody Try.prog 4 22)) mc2C := loop_ok mc2Mu mixed (KLS_ok (cc_cons tlistCc (cc_nil))) rfl (steps_cons mc2Step0 (steps_cons mc2Step1 (steps_cons mc2Step2 (steps_cons mc2Step3 (steps_cons mc2Step4 (steps_nil))))))

/-! The loop mc3 of wayfinder/wayfinderlaw04.RankMerges. -/
abbrev mc3Z := ((List Near) × Int × Nat × Int × Unit) × ((Unit × Unit × Unit × Unit × Unit) × (Int × (Nat × Nat) × Unit) × (Int × Unit × Unit) × (Int × (Nat × Nat) × Unit) × (Int × (Nat × Nat) × Unit) × (List Near) × (List Near) × (List Near) × Unit)
noncomputable def mc3Sl : Tel ((List Near) × Int × Nat × Int × Unit) := .cons 0 (.lst En) (.cons 2 (.int .i64) (.cons 7 (.sl 0 1) (.cons 12 (.int .i64) (.nil))))
noncomputable def mc3Bl : BTel ((Unit × Unit × Unit × Unit × Unit) × (Int × (Nat × Nat) × Unit) × (Int × Unit × Unit) × (Int × (Nat × Nat) × Unit) × (Int × (Nat × Nat) × Unit) × (List Near) × (List Near) × (List Near) × Unit) := .cons (.row (.cons 0 (.ptr 1) (.cons 1 (.ptr 2) (.cons 2 (.ptr 3) (.cons 3 (.ptr 4) (.nil)))))) (.cons (.row (.cons 0 (.int .i64) (.cons 1 (.slq 5 2) (.nil)))) (.cons (.row (.cons 0 (.int .i64) (.cons 1 (.nilS) (.nil)))) (.cons (.row (.cons 0 (.int .i64) (.cons 1 (.slq 6 2) (.nil)))) (.cons (.row (.cons 0 (.int .i64) (.cons 1 (.slq 7 2) (.nil)))) (.cons (.rows En 30) (.cons (.rows En 30) (.cons (.rows En 30) (.nil))))))))
noncomputable def mc3Sl0 : Tel ((List Near) × Int × Nat × Unit × Unit) := .cons 0 (.lst En) (.cons 2 (.int .i64) (.cons 7 (.sl 0 1) (.cons 12 (.num .i64 1) (.nil))))
noncomputable def mc3Bl0 : BTel ((Unit × Unit × Unit × Unit × Unit) × (Int × (Nat × Nat) × Unit) × (Int × Unit × Unit) × (Int × (Nat × Nat) × Unit) × (Int × Unit × Unit) × (List Near) × (List Near) × Unit) := .cons (.row (.cons 0 (.ptr 1) (.cons 1 (.ptr 2) (.cons 2 (.ptr 3) (.cons 3 (.ptr 4) (.nil)))))) (.cons (.row (.cons 0 (.int .i64) (.cons 1 (.slq 5 2) (.nil)))) (.cons (.row (.cons 0 (.int .i64) (.cons 1 (.nilS) (.nil)))) (.cons (.row (.cons 0 (.int .i64) (.cons 1 (.slq 6 2) (.nil)))) (.cons (.row (.cons 0 (.int .i64) (.cons 1 (.nilS) (.nil)))) (.cons (.rows En 30) (.cons (.rows En 30) (.nil)))))))
noncomputable def mc3Z0 : ((List Near) × Int × Nat × Unit × Unit) → ((Unit × Unit × Unit × Unit × Unit) × (Int × (Nat × Nat) × Unit) × (Int × Unit × Unit) × (Int × (Nat × Nat) × Unit) × (Int × Unit × Unit) × (List Near) × (List Near) × Unit) → mc3Z := fun (l, (k, (s, ((), ())))) (((), ((), ((), ((), ())))), ((k1, (h1, ())), ((k2, ((), ())), ((k3, (h3, ())), ((k4, ((), ())), (m1, (m3, ()))))))) => ((l, (k, (s, (1, ())))), (((), ((), ((), ((), ())))), ((k1, (h1, ())), ((k2, ((), ())), ((k3, (h3, ())), ((k4, ((0, 0), ())), (m1, (m3, ([], ())))))))))
noncomputable def mc3Sl1 : Tel ((List Near) × Int × Nat × Unit × Unit) := .cons 0 (.lst En) (.cons 2 (.int .i64) (.cons 7 (.sl 0 1) (.cons 12 (.num .i64 2) (.nil))))
noncomputable def mc3Bl1 : BTel ((Unit × Unit × Unit × Unit × Unit) × (Int × (Nat × Nat) × Unit) × (Int × Unit × Unit) × (Int × (Nat × Nat) × Unit) × (Int × Unit × Unit) × (List Near) × (List Near) × Unit) := .cons (.row (.cons 0 (.ptr 1) (.cons 1 (.ptr 2) (.cons 2 (.ptr 3) (.cons 3 (.ptr 4) (.nil)))))) (.cons (.row (.cons 0 (.int .i64) (.cons 1 (.slq 5 2) (.nil)))) (.cons (.row (.cons 0 (.int .i64) (.cons 1 (.nilS) (.nil)))) (.cons (.row (.cons 0 (.int .i64) (.cons 1 (.slq 6 2) (.nil)))) (.cons (.row (.cons 0 (.int .i64) (.cons 1 (.nilS) (.nil)))) (.cons (.rows En 30) (.cons (.rows En 30) (.nil)))))))
noncomputable def mc3Z1 : ((List Near) × Int × Nat × Unit × Unit) → ((Unit × Unit × Unit × Unit × Unit) × (Int × (Nat × Nat) × Unit) × (Int × Unit × Unit) × (Int × (Nat × Nat) × Unit) × (Int × Unit × Unit) × (List Near) × (List Near) × Unit) → mc3Z := fun (l, (k, (s, ((), ())))) (((), ((), ((), ((), ())))), ((k1, (h1, ())), ((k2, ((), ())), ((k3, (h3, ())), ((k4, ((), ())), (m1, (m3, ()))))))) => ((l, (k, (s, (2, ())))), (((), ((), ((), ((), ())))), ((k1, (h1, ())), ((k2, ((), ())), ((k3, (h3, ())), ((k4, ((0, 0), ())), (m1, (m3, ([], ())))))))))
noncomputable def mc3Sl2 : Tel ((List Near) × Int × Nat × Unit × Unit) := .cons 0 (.lst En) (.cons 2 (.int .i64) (.cons 7 (.sl 0 1) (.cons 12 (.num .i64 2) (.nil))))
noncomputable def mc3Bl2 : BTel ((Unit × Unit × Unit × Unit × Unit) × (Int × (Nat × Nat) × Unit) × (Int × Unit × Unit) × (Int × (Nat × Nat) × Unit) × (Int × (Nat × Nat) × Unit) × (List Near) × (List Near) × (List Near) × Unit) := .cons (.row (.cons 0 (.ptr 1) (.cons 1 (.ptr 2) (.cons 2 (.ptr 3) (.cons 3 (.ptr 4) (.nil)))))) (.cons (.row (.cons 0 (.int .i64) (.cons 1 (.slq 5 2) (.nil)))) (.cons (.row (.cons 0 (.int .i64) (.cons 1 (.nilS) (.nil)))) (.cons (.row (.cons 0 (.int .i64) (.cons 1 (.slq 6 2) (.nil)))) (.cons (.row (.cons 0 (.int .i64) (.cons 1 (.slq 7 2) (.nil)))) (.cons (.rows En 30) (.cons (.rows En 30) (.cons (.rows En 30) (.nil))))))))
noncomputable def mc3Z2 : ((List Near) × Int × Nat × Unit × Unit) → ((Unit × Unit × Unit × Unit × Unit) × (Int × (Nat × Nat) × Unit) × (Int × Unit × Unit) × (Int × (Nat × Nat) × Unit) × (Int × (Nat × Nat) × Unit) × (List Near) × (List Near) × (List Near) × Unit) → mc3Z := fun (l, (k, (s, ((), ())))) (((), ((), ((), ((), ())))), ((k1, (h1, ())), ((k2, ((), ())), ((k3, (h3, ())), ((k4, (h4, ())), (m1, (m3, (m4, ())))))))) => ((l, (k, (s, (2, ())))), (((), ((), ((), ((), ())))), ((k1, (h1, ())), ((k2, ((), ())), ((k3, (h3, ())), ((k4, (h4, ())), (m1, (m3, (m4, ())))))))))
noncomputable def mc3Sl3 : Tel ((List Near) × Int × Nat × Unit × Unit) := .cons 0 (.lst En) (.cons 2 (.int .i64) (.cons 7 (.sl 0 1) (.cons 12 (.num .i64 3) (.nil))))
noncomputable def mc3Bl3 : BTel ((Unit × Unit × Unit × Unit × Unit) × (Int × (Nat × Nat) × Unit) × (Int × Unit × Unit) × (Int × (Nat × Nat) × Unit) × (Int × Unit × Unit) × (List Near) × (List Near) × Unit) := .cons (.row (.cons 0 (.ptr 1) (.cons 1 (.ptr 2) (.cons 2 (.ptr 3) (.cons 3 (.ptr 4) (.nil)))))) (.cons (.row (.cons 0 (.int .i64) (.cons 1 (.slq 5 2) (.nil)))) (.cons (.row (.cons 0 (.int .i64) (.cons 1 (.nilS) (.nil)))) (.cons (.row (.cons 0 (.int .i64) (.cons 1 (.slq 6 2) (.nil)))) (.cons (.row (.cons 0 (.int .i64) (.cons 1 (.nilS) (.nil)))) (.cons (.rows En 30) (.cons (.rows En 30) (.nil)))))))
noncomputable def mc3Z3 : ((List Near) × Int × Nat × Unit × Unit) → ((Unit × Unit × Unit × Unit × Unit) × (Int × (Nat × Nat) × Unit) × (Int × Unit × Unit) × (Int × (Nat × Nat) × Unit) × (Int × Unit × Unit) × (List Near) × (List Near) × Unit) → mc3Z := fun (l, (k, (s, ((), ())))) (((), ((), ((), ((), ())))), ((k1, (h1, ())), ((k2, ((), ())), ((k3, (h3, ())), ((k4, ((), ())), (m1, (m3, ()))))))) => ((l, (k, (s, (3, ())))), (((), ((), ((), ((), ())))), ((k1, (h1, ())), ((k2, ((), ())), ((k3, (h3, ())), ((k4, ((0, 0), ())), (m1, (m3, ([], ())))))))))
noncomputable def mc3Sl4 : Tel ((List Near) × Int × Nat × Unit × Unit) := .cons 0 (.lst En) (.cons 2 (.int .i64) (.cons 7 (.sl 0 1) (.cons 12 (.num .i64 3) (.nil))))
noncomputable def mc3Bl4 : BTel ((Unit × Unit × Unit × Unit × Unit) × (Int × (Nat × Nat) × Unit) × (Int × Unit × Unit) × (Int × (Nat × Nat) × Unit) × (Int × (Nat × Nat) × Unit) × (List Near) × (List Near) × (List Near) × Unit) := .cons (.row (.cons 0 (.ptr 1) (.cons 1 (.ptr 2) (.cons 2 (.ptr 3) (.cons 3 (.ptr 4) (.nil)))))) (.cons (.row (.cons 0 (.int .i64) (.cons 1 (.slq 5 2) (.nil)))) (.cons (.row (.cons 0 (.int .i64) (.cons 1 (.nilS) (.nil)))) (.cons (.row (.cons 0 (.int .i64) (.cons 1 (.slq 6 2) (.nil)))) (.cons (.row (.cons 0 (.int .i64) (.cons 1 (.slq 7 2) (.nil)))) (.cons (.rows En 30) (.cons (.rows En 30) (.cons (.rows En 30) (.nil))))))))
noncomputable def mc3Z4 : ((List Near) × Int × Nat × Unit × Unit) → ((Unit × Unit × Unit × Unit × Unit) × (Int × (Nat × Nat) × Unit) × (Int × Unit × Unit) × (Int × (Nat × Nat) × Unit) × (Int × (Nat × Nat) × Unit) × (List Near) × (List Near) × (List Near) × Unit) → mc3Z := fun (l, (k, (s, ((), ())))) (((), ((), ((), ((), ())))), ((k1, (h1, ())), ((k2, ((), ())), ((k3, (h3, ())), ((k4, (h4, ())), (m1, (m3, (m4, ())))))))) => ((l, (k, (s, (3, ())))), (((), ((), ((), ((), ())))), ((k1, (h1, ())), ((k2, ((), ())), ((k3, (h3, ())), ((k4, (h4, ())), (m1, (m3, (m4, ())))))))))
noncomputable def mc3Fs : List (LForm mc3Z) := [⟨_, _, mc3Sl0, mc3Bl0, mc3Z0⟩, ⟨_, _, mc3Sl1, mc3Bl1, mc3Z1⟩, ⟨_, _, mc3Sl2, mc3Bl2, mc3Z2⟩, ⟨_, _, mc3Sl3, mc3Bl3, mc3Z3⟩, ⟨_, _, mc3Sl4, mc3Bl4, mc3Z4⟩]
noncomputable def mc3Alts (R0 : mc3Z → ((List Near) × Int × Nat × Unit) → ((Unit × Unit × Unit × Unit × Unit) × (Int × (Nat × Nat) × Unit) × (Int × Unit × Unit) × (Int × (Nat × Nat) × Unit) × (Int × (Nat × Nat) × Unit) × (List Near) × (List Near) × (List Near) × Unit) → Prop) (R1 : mc3Z → ((List Near) × Int × Nat × Unit) → ((Unit × Unit × Unit × Unit × Unit) × (Int × (Nat × Nat) × Unit) × (Int × Unit × Unit) × (Int × (Nat × Nat) × Unit) × (Int × Unit × Unit) × (List Near) × (List Near) × Unit) → Prop) : List (Alt mc3Z) := [⟨.exit 4, (List Near) × Int × Nat × Unit, (Unit × Unit × Unit × Unit × Unit) × (Int × (Nat × Nat) × Unit) × (Int × Unit × Unit) × (Int × (Nat × Nat) × Unit) × (Int × (Nat × Nat) × Unit) × (List Near) × (List Near) × (List Near) × Unit, .cons 0 (.lst En) (.cons 2 (.int .i64) (.cons 7 (.sl 0 1) (.nil))), .cons (.row (.cons 0 (.ptr 1) (.cons 1 (.ptr 2) (.cons 2 (.ptr 3) (.cons 3 (.ptr 4) (.nil)))))) (.cons (.row (.cons 0 (.int .i64) (.cons 1 (.slq 5 2) (.nil)))) (.cons (.row (.cons 0 (.int .i64) (.cons 1 (.nilS) (.nil)))) (.cons (.row (.cons 0 (.int .i64) (.cons 1 (.slq 6 2) (.nil)))) (.cons (.row (.cons 0 (.int .i64) (.cons 1 (.slq 7 2) (.nil)))) (.cons (.rows En 30) (.cons (.rows En 30) (.cons (.rows En 30) (.nil)))))))), R0⟩, ⟨.exit 4, (List Near) × Int × Nat × Unit, (Unit × Unit × Unit × Unit × Unit) × (Int × (Nat × Nat) × Unit) × (Int × Unit × Unit) × (Int × (Nat × Nat) × Unit) × (Int × Unit × Unit) × (List Near) × (List Near) × Unit, .cons 0 (.lst En) (.cons 2 (.int .i64) (.cons 7 (.sl 0 1) (.nil))), .cons (.row (.cons 0 (.ptr 1) (.cons 1 (.ptr 2) (.cons 2 (.ptr 3) (.cons 3 (.ptr 4) (.nil)))))) (.cons (.row (.cons 0 (.int .i64) (.cons 1 (.slq 5 2) (.nil)))) (.cons (.row (.cons 0 (.int .i64) (.cons 1 (.nilS) (.nil)))) (.cons (.row (.cons 0 (.int .i64) (.cons 1 (.slq 6 2) (.nil)))) (.cons (.row (.cons 0 (.int .i64) (.cons 1 (.nilS) (.nil)))) (.cons (.rows En 30) (.cons (.rows En 30) (.nil))))))), R1⟩]

theorem mc3Form0 (l : List Near) (k : Int) (s : Nat) (k1 : Int) (h1 : Nat × Nat) (k2 : Int) (k3 : Int) (h3 : Nat × Nat) (k4 : Int) (m1 : List Near) (m3 : List Near) (N : mc3Z → Prop) (R0 : mc3Z → ((List Near) × Int × Nat × Unit) → ((Unit × Unit × Unit × Unit × Unit) × (Int × (Nat × Nat) × Unit) × (Int × Unit × Unit) × (Int × (Nat × Nat) × Unit) × (Int × (Nat × Nat) × Unit) × (List Near) × (List Near) × (List Near) × Unit) → Prop) (R1 : mc3Z → ((List Near) × Int × Nat × Unit) → ((Unit × Unit × Unit × Unit × Unit) × (Int × (Nat × Nat) × Unit) × (Int × Unit × Unit) × (Int × (Nat × Nat) × Unit) × (Int × Unit × Unit) × (List Near) × (List Near) × Unit) → Prop) : ((runW Try.prog (KLS [(16, tlistK)] [(4, [(26, mbp3C)])] 30) 100).code none 4 122 (loopBody Try.prog 4 22) (mkT (mc3Sl0.av id (l, (k, (s, ((), ())))))) [] (stL false (mc3Bl0.obs id (((), ((), ((), ((), ())))), ((k1, (h1, ())), ((k2, ((), ())), ((k3, (h3, ())), ((k4, ((), ())), (m1, (m3, ()))))))))) (postL 0 mc3Fs (mc3Alts R0 R1) (mc3Z0 (l, (k, (s, ((), ())))) (((), ((), ((), ((), ())))), ((k1, (h1, ())), ((k2, ((), ())), ((k3, (h3, ())), ((k4, ((), ())), (m1, (m3, ())))))))) N)) =
  ( idxOk (Int.ofNat (1 : Nat)) s ∧ (False ∨ true = true ∧ list0Pre (((), ()), (k2, (), ()), ()) ∧ (∀ c d, list0R0 (((), ()), (k2, (), ()), ()) c d → LoopOk
  Try.prog (4 : FuncId) (122 : Nat) (loopBody Try.prog (4 : FuncId) (26 : Nat)).loop mbp3C ∧ (True ∧ True ∧ ((∃ l_1, VW l l_1 ∧ ∃ l, VW c.1 l ∧ False) ∨ ∃ l_1,
  VW l l_1 ∧ ∃ l, VW c.1 l ∧ ∃ l_2, FE m1 l_2 ∧ ∃ l_3, FE m3 l_3 ∧ true = true ∧ mb31Inv ((l_1, k, s, (), l, wrapF IntKind.i64 ((Int.ofNat c.1.length).sub (1 :
  Int)), ()), ((), (), (), (), ()), (k1, (h1.fst, h1.snd), ()), (d.1.1, (), ()), (k3, (h3.fst, h3.snd), ()), (k4, ((0 : Nat), (0 : Nat)), ()), l_2, l_3, [], ())
  ∧ (∀ c_1 d_1, mb31R0 ((l_1, k, s, (), l, wrapF IntKind.i64 ((Int.ofNat c.1.length).sub (1 : Int)), ()), ((), (), (), (), ()), (k1, (h1.fst, h1.snd), ()),
  (d.1.1, (), ()), (k3, (h3.fst, h3.snd), ()), (k4, ((0 : Nat), (0 : Nat)), ()), l_2, l_3, [], ()) c_1 d_1 → True ∧ ((∃ l, VW c_1.1 l ∧ False) ∨ (∃ l, VW c_1.1 l
  ∧ False) ∨ (∃ l, VW c_1.1 l ∧ ∃ l_4, FE d_1.2.2.2.2.2.1 l_4 ∧ ∃ l_5, FE d_1.2.2.2.2.2.2.1 l_5 ∧ ∃ l_6, FE d_1.2.2.2.2.2.2.2.1 l_6 ∧ true = true ∧ N ((l,
  c_1.2.1, c_1.2.2.1, (2 : Int), ()), ((), (), (), (), ()), (d_1.2.1.1, (d_1.2.1.2.1.fst, d_1.2.1.2.1.snd), ()), (d_1.2.2.1.1, (), ()), (d_1.2.2.2.1.1,
  (d_1.2.2.2.1.2.1.fst, d_1.2.2.2.1.2.1.snd), ()), (d_1.2.2.2.2.1.1, (d_1.2.2.2.2.1.2.1.fst, d_1.2.2.2.2.1.2.1.snd), ()), l_4, l_5, l_6, ())) ∨ (∃ l, VW c_1.1 l
  ∧ False) ∨ ∃ l, VW c_1.1 l ∧ False)) ∧ (∀ c_1 d_1, mb31R1 ((l_1, k, s, (), l, wrapF IntKind.i64 ((Int.ofNat c.1.length).sub (1 : Int)), ()), ((), (), (), (),
  ()), (k1, (h1.fst, h1.snd), ()), (d.1.1, (), ()), (k3, (h3.fst, h3.snd), ()), (k4, ((0 : Nat), (0 : Nat)), ()), l_2, l_3, [], ()) c_1 d_1 → True ∧ ((∃ l, VW
  c_1.1 l ∧ False) ∨ (∃ l, VW c_1.1 l ∧ ∃ l_4, FE d_1.2.2.2.2.2.1 l_4 ∧ ∃ l_5, FE d_1.2.2.2.2.2.2.1 l_5 ∧ true = true ∧ N ((l, c_1.2.1, c_1.2.2.1, (2 : Int),
  ()), ((), (), (), (), ()), (d_1.2.1.1, (d_1.2.1.2.1.fst, d_1.2.1.2.1.snd), ()), (d_1.2.2.1.1, (), ()), (d_1.2.2.2.1.1, (d_1.2.2.2.1.2.1.fst,
  d_1.2.2.2.1.2.1.snd), ()), (d_1.2.2.2.2.1.1, ((0 : Nat), (0 : Nat)), ()), l_4, l_5, [], ())) ∨ (∃ l, VW c_1.1 l ∧ False) ∨ (∃ l, VW c_1.1 l ∧ False) ∨ ∃ l, VW
  c_1.1 l ∧ False)) ∧ True) ∨ True ∧ True ∧ ((∃ l_1, VW l l_1 ∧ False) ∨ ∃ l_1, VW l l_1 ∧ False))) ∧ True)) := by kernel_rfl

theorem mc3Form1 (l : List Near) (k : Int) (s : Nat) (k1 : Int) (h1 : Nat × Nat) (k2 : Int) (k3 : Int) (h3 : Nat × Nat) (k4 : Int) (m1 : List Near) (m3 : List Near) (N : mc3Z → Prop) (R0 : mc3Z → ((List Near) × Int × Nat × Unit) → ((Unit × Unit × Unit × Unit × Unit) × (Int × (Nat × Nat) × Unit) × (Int × Unit × Unit) × (Int × (Nat × Nat) × Unit) × (Int × (Nat × Nat) × Unit) × (List Near) × (List Near) × (List Near) × Unit) → Prop) (R1 : mc3Z → ((List Near) × Int × Nat × Unit) → ((Unit × Unit × Unit × Unit × Unit) × (Int × (Nat × Nat) × Unit) × (Int × Unit × Unit) × (Int × (Nat × Nat) × Unit) × (Int × Unit × Unit) × (List Near) × (List Near) × Unit) → Prop) : ((runW Try.prog (KLS [(16, tlistK)] [(4, [(26, mbp3C)])] 30) 100).code none 4 122 (loopBody Try.prog 4 22) (mkT (mc3Sl1.av id (l, (k, (s, ((), ())))))) [] (stL false (mc3Bl1.obs id (((), ((), ((), ((), ())))), ((k1, (h1, ())), ((k2, ((), ())), ((k3, (h3, ())), ((k4, ((), ())), (m1, (m3, ()))))))))) (postL 0 mc3Fs (mc3Alts R0 R1) (mc3Z1 (l, (k, (s, ((), ())))) (((), ((), ((), ((), ())))), ((k1, (h1, ())), ((k2, ((), ())), ((k3, (h3, ())), ((k4, ((), ())), (m1, (m3, ())))))))) N)) =
  ( idxOk (Int.ofNat (2 : Nat)) s ∧ ((∃ l_1, FE m3 l_1 ∧ true = true ∧ list1Pre (((), ()), (k3, (h3.fst, h3.snd), ()), l_1, ()) ∧ (∀ c d, list1R0 (((), ()), (k3,
  (h3.fst, h3.snd), ()), l_1, ()) c d → LoopOk Try.prog (4 : FuncId) (122 : Nat) (loopBody Try.prog (4 : FuncId) (26 : Nat)).loop mbp3C ∧ (True ∧ True ∧ ((∃ l_2,
  VW l l_2 ∧ False) ∨ ∃ l_2, VW l l_2 ∧ False) ∨ True ∧ True ∧ ((∃ l_2, VW l l_2 ∧ ∃ l, VW c.1 l ∧ False) ∨ ∃ l_2, VW l l_2 ∧ ∃ l, VW c.1 l ∧ ∃ l_3, FE m1 l_3 ∧
  ∃ l_4, FE d.2.1 l_4 ∧ true = true ∧ mb32Inv ((l_2, k, s, (), l, wrapF IntKind.i64 ((Int.ofNat c.1.length).sub (1 : Int)), ()), ((), (), (), (), ()), (k1,
  (h1.fst, h1.snd), ()), (k2, (), ()), (d.1.1, (d.1.2.1.fst, d.1.2.1.snd), ()), (k4, ((0 : Nat), (0 : Nat)), ()), l_3, l_4, [], ()) ∧ (∀ c_1 d_1, mb32R0 ((l_2,
  k, s, (), l, wrapF IntKind.i64 ((Int.ofNat c.1.length).sub (1 : Int)), ()), ((), (), (), (), ()), (k1, (h1.fst, h1.snd), ()), (k2, (), ()), (d.1.1,
  (d.1.2.1.fst, d.1.2.1.snd), ()), (k4, ((0 : Nat), (0 : Nat)), ()), l_3, l_4, [], ()) c_1 d_1 → True ∧ ((∃ l, VW c_1.1 l ∧ False) ∨ (∃ l, VW c_1.1 l ∧ False) ∨
  (∃ l, VW c_1.1 l ∧ False) ∨ (∃ l, VW c_1.1 l ∧ False) ∨ ∃ l, VW c_1.1 l ∧ ∃ l_5, FE d_1.2.2.2.2.2.1 l_5 ∧ ∃ l_6, FE d_1.2.2.2.2.2.2.1 l_6 ∧ ∃ l_7, FE
  d_1.2.2.2.2.2.2.2.1 l_7 ∧ true = true ∧ N ((l, c_1.2.1, c_1.2.2.1, (3 : Int), ()), ((), (), (), (), ()), (d_1.2.1.1, (d_1.2.1.2.1.fst, d_1.2.1.2.1.snd), ()),
  (d_1.2.2.1.1, (), ()), (d_1.2.2.2.1.1, (d_1.2.2.2.1.2.1.fst, d_1.2.2.2.1.2.1.snd), ()), (d_1.2.2.2.2.1.1, (d_1.2.2.2.2.1.2.1.fst, d_1.2.2.2.2.1.2.1.snd), ()),
  l_5, l_6, l_7, ()))) ∧ (∀ c_1 d_1, mb32R1 ((l_2, k, s, (), l, wrapF IntKind.i64 ((Int.ofNat c.1.length).sub (1 : Int)), ()), ((), (), (), (), ()), (k1,
  (h1.fst, h1.snd), ()), (k2, (), ()), (d.1.1, (d.1.2.1.fst, d.1.2.1.snd), ()), (k4, ((0 : Nat), (0 : Nat)), ()), l_3, l_4, [], ()) c_1 d_1 → True ∧ ((∃ l, VW
  c_1.1 l ∧ False) ∨ (∃ l, VW c_1.1 l ∧ False) ∨ (∃ l, VW c_1.1 l ∧ False) ∨ (∃ l, VW c_1.1 l ∧ ∃ l_5, FE d_1.2.2.2.2.2.1 l_5 ∧ ∃ l_6, FE d_1.2.2.2.2.2.2.1 l_6 ∧
  true = true ∧ N ((l, c_1.2.1, c_1.2.2.1, (3 : Int), ()), ((), (), (), (), ()), (d_1.2.1.1, (d_1.2.1.2.1.fst, d_1.2.1.2.1.snd), ()), (d_1.2.2.1.1, (), ()),
  (d_1.2.2.2.1.1, (d_1.2.2.2.1.2.1.fst, d_1.2.2.2.1.2.1.snd), ()), (d_1.2.2.2.2.1.1, ((0 : Nat), (0 : Nat)), ()), l_5, l_6, [], ())) ∨ ∃ l, VW c_1.1 l ∧ False))
  ∧ True))) ∧ True) ∨ False)) := by kernel_rfl

theorem mc3Form2 (l : List Near) (k : Int) (s : Nat) (k1 : Int) (h1 : Nat × Nat) (k2 : Int) (k3 : Int) (h3 : Nat × Nat) (k4 : Int) (h4 : Nat × Nat) (m1 : List Near) (m3 : List Near) (m4 : List Near) (N : mc3Z → Prop) (R0 : mc3Z → ((List Near) × Int × Nat × Unit) → ((Unit × Unit × Unit × Unit × Unit) × (Int × (Nat × Nat) × Unit) × (Int × Unit × Unit) × (Int × (Nat × Nat) × Unit) × (Int × (Nat × Nat) × Unit) × (List Near) × (List Near) × (List Near) × Unit) → Prop) (R1 : mc3Z → ((List Near) × Int × Nat × Unit) → ((Unit × Unit × Unit × Unit × Unit) × (Int × (Nat × Nat) × Unit) × (Int × Unit × Unit) × (Int × (Nat × Nat) × Unit) × (Int × Unit × Unit) × (List Near) × (List Near) × Unit) → Prop) : ((runW Try.prog (KLS [(16, tlistK)] [(4, [(26, mbp3C)])] 30) 100).code none 4 122 (loopBody Try.prog 4 22) (mkT (mc3Sl2.av id (l, (k, (s, ((), ())))))) [] (stL false (mc3Bl2.obs id (((), ((), ((), ((), ())))), ((k1, (h1, ())), ((k2, ((), ())), ((k3, (h3, ())), ((k4, (h4, ())), (m1, (m3, (m4, ())))))))))) (postL 0 mc3Fs (mc3Alts R0 R1) (mc3Z2 (l, (k, (s, ((), ())))) (((), ((), ((), ((), ())))), ((k1, (h1, ())), ((k2, ((), ())), ((k3, (h3, ())), ((k4, (h4, ())), (m1, (m3, (m4, ()))))))))) N)) =
  ( idxOk (Int.ofNat (2 : Nat)) s ∧ ((∃ l_1, FE m3 l_1 ∧ true = true ∧ list1Pre (((), ()), (k3, (h3.fst, h3.snd), ()), l_1, ()) ∧ (∀ c d, list1R0 (((), ()), (k3,
  (h3.fst, h3.snd), ()), l_1, ()) c d → LoopOk Try.prog (4 : FuncId) (122 : Nat) (loopBody Try.prog (4 : FuncId) (26 : Nat)).loop mbp3C ∧ (True ∧ True ∧ ((∃ l_2,
  VW l l_2 ∧ False) ∨ ∃ l_2, VW l l_2 ∧ False) ∨ True ∧ True ∧ ((∃ l_2, VW l l_2 ∧ ∃ l, VW c.1 l ∧ ∃ l_3, FE m1 l_3 ∧ ∃ l_4, FE d.2.1 l_4 ∧ ∃ l_5, FE m4 l_5 ∧
  true = true ∧ mb32Inv ((l_2, k, s, (), l, wrapF IntKind.i64 ((Int.ofNat c.1.length).sub (1 : Int)), ()), ((), (), (), (), ()), (k1, (h1.fst, h1.snd), ()), (k2,
  (), ()), (d.1.1, (d.1.2.1.fst, d.1.2.1.snd), ()), (k4, (h4.fst, h4.snd), ()), l_3, l_4, l_5, ()) ∧ (∀ c_1 d_1, mb32R0 ((l_2, k, s, (), l, wrapF IntKind.i64
  ((Int.ofNat c.1.length).sub (1 : Int)), ()), ((), (), (), (), ()), (k1, (h1.fst, h1.snd), ()), (k2, (), ()), (d.1.1, (d.1.2.1.fst, d.1.2.1.snd), ()), (k4,
  (h4.fst, h4.snd), ()), l_3, l_4, l_5, ()) c_1 d_1 → True ∧ ((∃ l, VW c_1.1 l ∧ False) ∨ (∃ l, VW c_1.1 l ∧ False) ∨ (∃ l, VW c_1.1 l ∧ False) ∨ (∃ l, VW c_1.1
  l ∧ False) ∨ ∃ l, VW c_1.1 l ∧ ∃ l_6, FE d_1.2.2.2.2.2.1 l_6 ∧ ∃ l_7, FE d_1.2.2.2.2.2.2.1 l_7 ∧ ∃ l_8, FE d_1.2.2.2.2.2.2.2.1 l_8 ∧ true = true ∧ N ((l,
  c_1.2.1, c_1.2.2.1, (3 : Int), ()), ((), (), (), (), ()), (d_1.2.1.1, (d_1.2.1.2.1.fst, d_1.2.1.2.1.snd), ()), (d_1.2.2.1.1, (), ()), (d_1.2.2.2.1.1,
  (d_1.2.2.2.1.2.1.fst, d_1.2.2.2.1.2.1.snd), ()), (d_1.2.2.2.2.1.1, (d_1.2.2.2.2.1.2.1.fst, d_1.2.2.2.2.1.2.1.snd), ()), l_6, l_7, l_8, ()))) ∧ (∀ c_1 d_1,
  mb32R1 ((l_2, k, s, (), l, wrapF IntKind.i64 ((Int.ofNat c.1.length).sub (1 : Int)), ()), ((), (), (), (), ()), (k1, (h1.fst, h1.snd), ()), (k2, (), ()),
  (d.1.1, (d.1.2.1.fst, d.1.2.1.snd), ()), (k4, (h4.fst, h4.snd), ()), l_3, l_4, l_5, ()) c_1 d_1 → True ∧ ((∃ l, VW c_1.1 l ∧ False) ∨ (∃ l, VW c_1.1 l ∧ False)
  ∨ (∃ l, VW c_1.1 l ∧ False) ∨ (∃ l, VW c_1.1 l ∧ ∃ l_6, FE d_1.2.2.2.2.2.1 l_6 ∧ ∃ l_7, FE d_1.2.2.2.2.2.2.1 l_7 ∧ true = true ∧ N ((l, c_1.2.1, c_1.2.2.1, (3
  : Int), ()), ((), (), (), (), ()), (d_1.2.1.1, (d_1.2.1.2.1.fst, d_1.2.1.2.1.snd), ()), (d_1.2.2.1.1, (), ()), (d_1.2.2.2.1.1, (d_1.2.2.2.1.2.1.fst,
  d_1.2.2.2.1.2.1.snd), ()), (d_1.2.2.2.2.1.1, ((0 : Nat), (0 : Nat)), ()), l_6, l_7, [], ())) ∨ ∃ l, VW c_1.1 l ∧ False)) ∧ True) ∨ ∃ l_2, VW l l_2 ∧ ∃ l, VW
  c.1 l ∧ False))) ∧ True) ∨ False)) := by kernel_rfl

theorem mc3Form3 (l : List Near) (k : Int) (s : Nat) (k1 : Int) (h1 : Nat × Nat) (k2 : Int) (k3 : Int) (h3 : Nat × Nat) (k4 : Int) (m1 : List Near) (m3 : List Near) (N : mc3Z → Prop) (R0 : mc3Z → ((List Near) × Int × Nat × Unit) → ((Unit × Unit × Unit × Unit × Unit) × (Int × (Nat × Nat) × Unit) × (Int × Unit × Unit) × (Int × (Nat × Nat) × Unit) × (Int × (Nat × Nat) × Unit) × (List Near) × (List Near) × (List Near) × Unit) → Prop) (R1 : mc3Z → ((List Near) × Int × Nat × Unit) → ((Unit × Unit × Unit × Unit × Unit) × (Int × (Nat × Nat) × Unit) × (Int × Unit × Unit) × (Int × (Nat × Nat) × Unit) × (Int × Unit × Unit) × (List Near) × (List Near) × Unit) → Prop) : ((runW Try.prog (KLS [(16, tlistK)] [(4, [(26, mbp3C)])] 30) 100).code none 4 122 (loopBody Try.prog 4 22) (mkT (mc3Sl3.av id (l, (k, (s, ((), ())))))) [] (stL false (mc3Bl3.obs id (((), ((), ((), ((), ())))), ((k1, (h1, ())), ((k2, ((), ())), ((k3, (h3, ())), ((k4, ((), ())), (m1, (m3, ()))))))))) (postL 0 mc3Fs (mc3Alts R0 R1) (mc3Z3 (l, (k, (s, ((), ())))) (((), ((), ((), ((), ())))), ((k1, (h1, ())), ((k2, ((), ())), ((k3, (h3, ())), ((k4, ((), ())), (m1, (m3, ())))))))) N)) =
  ( (True ∧ ∃ l_1, VW l l_1 ∧ False) ∨ True ∧ ∃ l_1, VW l l_1 ∧ ∃ l_2, FE m1 l_2 ∧ ∃ l_3, FE m3 l_3 ∧ true = true ∧ R1 ((l, k, s, (3 : Int), ()), ((), (), (), (),
  ()), (k1, h1, ()), (k2, (), ()), (k3, h3, ()), (k4, ((0 : Nat), (0 : Nat)), ()), m1, m3, [], ()) (l_1, k, s, ()) (((), (), (), (), ()), (k1, (h1.fst, h1.snd),
  ()), (k2, (), ()), (k3, (h3.fst, h3.snd), ()), (k4, (), ()), l_2, l_3, ())) := by kernel_rfl

theorem mc3Form4 (l : List Near) (k : Int) (s : Nat) (k1 : Int) (h1 : Nat × Nat) (k2 : Int) (k3 : Int) (h3 : Nat × Nat) (k4 : Int) (h4 : Nat × Nat) (m1 : List Near) (m3 : List Near) (m4 : List Near) (N : mc3Z → Prop) (R0 : mc3Z → ((List Near) × Int × Nat × Unit) → ((Unit × Unit × Unit × Unit × Unit) × (Int × (Nat × Nat) × Unit) × (Int × Unit × Unit) × (Int × (Nat × Nat) × Unit) × (Int × (Nat × Nat) × Unit) × (List Near) × (List Near) × (List Near) × Unit) → Prop) (R1 : mc3Z → ((List Near) × Int × Nat × Unit) → ((Unit × Unit × Unit × Unit × Unit) × (Int × (Nat × Nat) × Unit) × (Int × Unit × Unit) × (Int × (Nat × Nat) × Unit) × (Int × Unit × Unit) × (List Near) × (List Near) × Unit) → Prop) : ((runW Try.prog (KLS [(16, tlistK)] [(4, [(26, mbp3C)])] 30) 100).code none 4 122 (loopBody Try.prog 4 22) (mkT (mc3Sl4.av id (l, (k, (s, ((), ())))))) [] (stL false (mc3Bl4.obs id (((), ((), ((), ((), ())))), ((k1, (h1, ())), ((k2, ((), ())), ((k3, (h3, ())), ((k4, (h4, ())), (m1, (m3, (m4, ())))))))))) (postL 0 mc3Fs (mc3Alts R0 R1) (mc3Z4 (l, (k, (s, ((), ())))) (((), ((), ((), ((), ())))), ((k1, (h1, ())), ((k2, ((), ())), ((k3, (h3, ())), ((k4, (h4, ())), (m1, (m3, (m4, ()))))))))) N)) =
  ( (True ∧ ∃ l_1, VW l l_1 ∧ ∃ l_2, FE m1 l_2 ∧ ∃ l_3, FE m3 l_3 ∧ ∃ l_4, FE m4 l_4 ∧ true = true ∧ R0 ((l, k, s, (3 : Int), ()), ((), (), (), (), ()), (k1, h1,
  ()), (k2, (), ()), (k3, h3, ()), (k4, h4, ()), m1, m3, m4, ()) (l_1, k, s, ()) (((), (), (), (), ()), (k1, (h1.fst, h1.snd), ()), (k2, (), ()), (k3, (h3.fst,
  h3.snd), ()), (k4, (h4.fst, h4.snd), ()), l_2, l_3, l_4, ())) ∨ True ∧ ∃ l_1, VW l l_1 ∧ False) := by kernel_rfl

def mc3Inv : mc3Z → Prop := fun ((l, (k, (s, (o, ())))), (((), ((), ((), ((), ())))), ((k1, (h1, ())), ((k2, ((), ())), ((k3, (h3, ())), ((k4, (h4, ())), (m1, (m3, (m4, ()))))))))) => s = 4 ∧ l.length ≤ 150 ∧ 0 ≤ k ∧ k ≤ 150 ∧ k1 = k ∧ k2 = k ∧ k3 = k ∧ k4 = k ∧ h1 = (m1.length, m1.length) ∧ h3 = (m3.length, m3.length) ∧ h4 = (m4.length, m4.length) ∧ ∃ u : Nat, MaR k l u m1 [] m3 ∧ TopOk k m4 (topL k (McX k l u o))
def mc3Mu : mc3Z → Nat := fun ((l, (k, (s, (o, ())))), (((), ((), ((), ((), ())))), ((k1, (h1, ())), ((k2, ((), ())), ((k3, (h3, ())), ((k4, (h4, ())), (m1, (m3, (m4, ()))))))))) => (3 - o).toNat
def mc3R0 : mc3Z → ((List Near) × Int × Nat × Unit) → ((Unit × Unit × Unit × Unit × Unit) × (Int × (Nat × Nat) × Unit) × (Int × Unit × Unit) × (Int × (Nat × Nat) × Unit) × (Int × (Nat × Nat) × Unit) × (List Near) × (List Near) × (List Near) × Unit) → Prop := fun ((l, (k, (s, (o, ())))), (((), ((), ((), ((), ())))), ((k1, (h1, ())), ((k2, ((), ())), ((k3, (h3, ())), ((k4, (h4, ())), (m1, (m3, (m4, ()))))))))) (l2, y, s2, _) (_, (x1, g1, _), (x2, _), (x3, g3, _), (x4, g4, _), n1, n3, n4, _) => l2 = l ∧ y = k ∧ s2 = 4 ∧ x1 = k ∧ x4 = k ∧ 0 ≤ k ∧ k ≤ 150 ∧ l.length ≤ 150 ∧ g1 = (n1.length, n1.length) ∧ g4 = (n4.length, n4.length) ∧ TopOk k n1 (topL k l) ∧ TopOk k n4 (topL k l)
def mc3R1 : mc3Z → ((List Near) × Int × Nat × Unit) → ((Unit × Unit × Unit × Unit × Unit) × (Int × (Nat × Nat) × Unit) × (Int × Unit × Unit) × (Int × (Nat × Nat) × Unit) × (Int × Unit × Unit) × (List Near) × (List Near) × Unit) → Prop := fun ((l, (k, (s, (o, ())))), (((), ((), ((), ((), ())))), ((k1, (h1, ())), ((k2, ((), ())), ((k3, (h3, ())), ((k4, (h4, ())), (m1, (m3, (m4, ()))))))))) (l2, y, s2, _) (_, (x1, g1, _), (x2, _), (x3, g3, _), (x4, _), n1, n3, _) => l2 = l ∧ y = k ∧ s2 = 4 ∧ x1 = k ∧ x4 = k ∧ 0 ≤ k ∧ k ≤ 150 ∧ l.length ≤ 150 ∧ g1 = (n1.length, n1.length) ∧ TopOk k n1 (topL k l) ∧ TopOk k [] (topL k l)
noncomputable def mc3C : LoopC := loopC 0 mc3Fs (mc3Alts mc3R0 mc3R1) mc3Inv

theorem mc3Step0 : stepsOk Try.prog (KLS [(16, tlistK)] [(4, [(26, mbp3C)])] 30) 100 4 122 (loopBody Try.prog 4 22) 0 false mc3Fs (mc3Alts mc3R0 mc3R1) mc3Inv mc3Mu ⟨_, _, mc3Sl0, mc3Bl0, mc3Z0⟩ := by
  intro x y hz
  obtain ⟨l, k, s, _, _⟩ := x
  obtain ⟨⟨_, _, _, _, _⟩, ⟨k1, h1, _⟩, ⟨k2, _, _⟩, ⟨k3, h3, _⟩, ⟨k4, _, _⟩, m1, m3, _⟩ := y
  refine (mc3Form0 l k s k1 h1 k2 k3 h3 k4 m1 m3 _ _ _).mpr ?_
  obtain ⟨hs, hl, k0, kle, q1, q2, q3, q4, g1, g3, g4, u, hM, hT⟩ := hz
  obtain rfl : s = 4 := hs
  obtain rfl : k = k1 := q1.symm
  obtain rfl : k = k2 := q2.symm
  obtain rfl : k = k3 := q3.symm
  obtain rfl : k = k4 := q4.symm
  obtain rfl : h1 = (m1.length, m1.length) := g1
  obtain rfl : h3 = (m3.length, m3.length) := g3
  have hP : TopOk k [] (topL k (l.take u)) := hM.2.1
  have hPl := hP.len
  have hPk := hP.l
  refine ⟨⟨by decide, by decide⟩, Or.inr ⟨(by first | exact trivial | exact rfl), trivial, fun c d hr => ?_, trivial⟩⟩
  obtain ⟨x, _⟩ := c
  obtain ⟨⟨kx, _⟩, _⟩ := d
  obtain ⟨hx, hk2⟩ := hr
  obtain rfl : k = kx := hk2.symm
  replace hx : x = topL k (l.take u) := hx.trans (List.length_eq_zero_iff.1 hPl.symm).symm
  have hxl : x.length ≤ 150 := by rw [hx]; omega
  have ew : wrapF .i64 (Int.sub (Int.ofNat x.length) 1) = (x.length : Int) - 1 := by
    show wrapF .i64 (Int.sub (x.length : Int) 1) = _
    rw [wsub (by omega) (by omega)]
  refine ⟨mbp3Ok, Or.inl ⟨trivial, trivial, Or.inr ⟨l, Wk.refl _, x, Wk.refl _, m1, rfl, m3, rfl, (by first | exact trivial | exact rfl), ⟨x.length, ew, Nat.le_refl _, hxl, rfl, k0, kle, rfl, rfl, rfl, rfl, rfl, rfl, rfl, _, hT⟩, fun c1 d1 hr1 => ?_, fun c1 d1 hr1 => ?_, trivial⟩⟩⟩
  · obtain ⟨l2, y, s2, _, _⟩ := c1
    obtain ⟨_, ⟨x1, g1, _⟩, ⟨x2, _⟩, ⟨x3, g3, _⟩, ⟨x4, g4, _⟩, n1, n3, n4, _⟩ := d1
    obtain ⟨hl2, hy, hs2, hx1, hx2, hx3, hx4, hg1, hn1, hg3, hn3, hg4, hA⟩ := hr1
    obtain rfl : l = l2 := hl2.symm
    obtain rfl : k = y := hy.symm
    obtain rfl : s2 = 4 := hs2
    obtain rfl : k = x1 := hx1.symm
    obtain rfl : k = x2 := hx2.symm
    obtain rfl : k = x3 := hx3.symm
    obtain rfl : k = x4 := hx4.symm
    obtain rfl : m1 = n1 := hn1.symm
    obtain rfl : g1 = (m1.length, m1.length) := hg1
    obtain rfl : m3 = n3 := hn3.symm
    obtain rfl : g3 = (m3.length, m3.length) := hg3
    obtain rfl : g4 = (n4.length, n4.length) := hg4
    have hB := hA _ hT
    rw [ew, show ((x.length : Int) - 1 + 1).toNat = x.length by omega, List.take_length, hx] at hB
    exact ⟨trivial, Or.inr (Or.inr (Or.inl ⟨l, Wk.refl _, m1, rfl, m3, rfl, n4, rfl, (by first | exact trivial | exact rfl), ⟨rfl, hl, k0, kle, rfl, rfl, rfl, rfl, rfl, rfl, rfl, u, hM, hB⟩, by show (3 - (2 : Int)).toNat < (3 - (1 : Int)).toNat; decide, fun _ _ h => h, fun _ _ h => h, trivial⟩))⟩
  · obtain ⟨l2, y, s2, _, _⟩ := c1
    obtain ⟨_, ⟨x1, g1, _⟩, ⟨x2, _⟩, ⟨x3, g3, _⟩, ⟨x4, _⟩, n1, n3, _⟩ := d1
    obtain ⟨hl2, hy, hs2, hx1, hx2, hx3, hx4, hg1, hn1, hg3, hn3, hA⟩ := hr1
    obtain rfl : l = l2 := hl2.symm
    obtain rfl : k = y := hy.symm
    obtain rfl : s2 = 4 := hs2
    obtain rfl : k = x1 := hx1.symm
    obtain rfl : k = x2 := hx2.symm
    obtain rfl : k = x3 := hx3.symm
    obtain rfl : k = x4 := hx4.symm
    obtain rfl : m1 = n1 := hn1.symm
    obtain rfl : g1 = (m1.length, m1.length) := hg1
    obtain rfl : m3 = n3 := hn3.symm
    obtain rfl : g3 = (m3.length, m3.length) := hg3
    have hB := hA _ hT
    rw [ew, show ((x.length : Int) - 1 + 1).toNat = x.length by omega, List.take_length, hx] at hB
    exact ⟨trivial, Or.inr (Or.inl ⟨l, Wk.refl _, m1, rfl, m3, rfl, (by first | exact trivial | exact rfl), ⟨rfl, hl, k0, kle, rfl, rfl, rfl, rfl, rfl, rfl, rfl, u, hM, hB⟩, by show (3 - (2 : Int)).toNat < (3 - (1 : Int)).toNat; decide, fun _ _ h => h, fun _ _ h => h, trivial⟩)⟩
theorem mc3Step1 : stepsOk Try.prog (KLS [(16, tlistK)] [(4, [(26, mbp3C)])] 30) 100 4 122 (loopBody Try.prog 4 22) 0 false mc3Fs (mc3Alts mc3R0 mc3R1) mc3Inv mc3Mu ⟨_, _, mc3Sl1, mc3Bl1, mc3Z1⟩ := by
  intro x y hz
  obtain ⟨l, k, s, _, _⟩ := x
  obtain ⟨⟨_, _, _, _, _⟩, ⟨k1, h1, _⟩, ⟨k2, _, _⟩, ⟨k3, h3, _⟩, ⟨k4, _, _⟩, m1, m3, _⟩ := y
  refine (mc3Form1 l k s k1 h1 k2 k3 h3 k4 m1 m3 _ _ _).mpr ?_
  obtain ⟨hs, hl, k0, kle, q1, q2, q3, q4, g1, g3, g4, u, hM, hT⟩ := hz
  obtain rfl : s = 4 := hs
  obtain rfl : k = k1 := q1.symm
  obtain rfl : k = k2 := q2.symm
  obtain rfl : k = k3 := q3.symm
  obtain rfl : k = k4 := q4.symm
  obtain rfl : h1 = (m1.length, m1.length) := g1
  obtain rfl : h3 = (m3.length, m3.length) := g3
  have hP : TopOk k m3 (topL k (l.drop u)) := hM.2.2
  have hPl := hP.len
  have hPk := hP.l
  refine ⟨⟨by decide, by decide⟩, Or.inl ⟨m3, rfl, (by first | exact trivial | exact rfl), ⟨rfl, by omega⟩, fun c d hr => ?_, trivial⟩⟩
  obtain ⟨x, _⟩ := c
  obtain ⟨⟨kx, gx, _⟩, mx, _⟩ := d
  obtain ⟨hx, hk2, hg2, hm2⟩ := hr
  obtain rfl : k = kx := hk2.symm
  obtain rfl : gx = (m3.length, m3.length) := hg2
  obtain rfl : m3 = mx := hm2.symm
  replace hx : x = topL k (l.drop u) := hx.trans hP.list
  have hxl : x.length ≤ 150 := by rw [hx]; omega
  have ew : wrapF .i64 (Int.sub (Int.ofNat x.length) 1) = (x.length : Int) - 1 := by
    show wrapF .i64 (Int.sub (x.length : Int) 1) = _
    rw [wsub (by omega) (by omega)]
  refine ⟨mbp3Ok, Or.inr ⟨trivial, trivial, Or.inr ⟨l, Wk.refl _, x, Wk.refl _, m1, rfl, m3, rfl, (by first | exact trivial | exact rfl), ⟨x.length, ew, Nat.le_refl _, hxl, rfl, k0, kle, rfl, rfl, rfl, rfl, rfl, rfl, rfl, _, hT⟩, fun c1 d1 hr1 => ?_, fun c1 d1 hr1 => ?_, trivial⟩⟩⟩
  · obtain ⟨l2, y, s2, _, _⟩ := c1
    obtain ⟨_, ⟨x1, g1, _⟩, ⟨x2, _⟩, ⟨x3, g3, _⟩, ⟨x4, g4, _⟩, n1, n3, n4, _⟩ := d1
    obtain ⟨hl2, hy, hs2, hx1, hx2, hx3, hx4, hg1, hn1, hg3, hn3, hg4, hA⟩ := hr1
    obtain rfl : l = l2 := hl2.symm
    obtain rfl : k = y := hy.symm
    obtain rfl : s2 = 4 := hs2
    obtain rfl : k = x1 := hx1.symm
    obtain rfl : k = x2 := hx2.symm
    obtain rfl : k = x3 := hx3.symm
    obtain rfl : k = x4 := hx4.symm
    obtain rfl : m1 = n1 := hn1.symm
    obtain rfl : g1 = (m1.length, m1.length) := hg1
    obtain rfl : m3 = n3 := hn3.symm
    obtain rfl : g3 = (m3.length, m3.length) := hg3
    obtain rfl : g4 = (n4.length, n4.length) := hg4
    have hB := hA _ hT
    rw [ew, show ((x.length : Int) - 1 + 1).toNat = x.length by omega, List.take_length, hx] at hB
    exact ⟨trivial, Or.inr (Or.inr (Or.inr (Or.inr ⟨l, Wk.refl _, m1, rfl, m3, rfl, n4, rfl, (by first | exact trivial | exact rfl), ⟨rfl, hl, k0, kle, rfl, rfl, rfl, rfl, rfl, rfl, rfl, u, hM, hB⟩, by show (3 - (3 : Int)).toNat < (3 - (2 : Int)).toNat; decide, fun _ _ h => h, fun _ _ h => h, trivial⟩)))⟩
  · obtain ⟨l2, y, s2, _, _⟩ := c1
    obtain ⟨_, ⟨x1, g1, _⟩, ⟨x2, _⟩, ⟨x3, g3, _⟩, ⟨x4, _⟩, n1, n3, _⟩ := d1
    obtain ⟨hl2, hy, hs2, hx1, hx2, hx3, hx4, hg1, hn1, hg3, hn3, hA⟩ := hr1
    obtain rfl : l = l2 := hl2.symm
    obtain rfl : k = y := hy.symm
    obtain rfl : s2 = 4 := hs2
    obtain rfl : k = x1 := hx1.symm
    obtain rfl : k = x2 := hx2.symm
    obtain rfl : k = x3 := hx3.symm
    obtain rfl : k = x4 := hx4.symm
    obtain rfl : m1 = n1 := hn1.symm
    obtain rfl : g1 = (m1.length, m1.length) := hg1
    obtain rfl : m3 = n3 := hn3.symm
    obtain rfl : g3 = (m3.length, m3.length) := hg3
    have hB := hA _ hT
    rw [ew, show ((x.length : Int) - 1 + 1).toNat = x.length by omega, List.take_length, hx] at hB
    exact ⟨trivial, Or.inr (Or.inr (Or.inr (Or.inl ⟨l, Wk.refl _, m1, rfl, m3, rfl, (by first | exact trivial | exact rfl), ⟨rfl, hl, k0, kle, rfl, rfl, rfl, rfl, rfl, rfl, rfl, u, hM, hB⟩, by show (3 - (3 : Int)).toNat < (3 - (2 : Int)).toNat; decide, fun _ _ h => h, fun _ _ h => h, trivial⟩)))⟩
theorem mc3Step2 : stepsOk Try.prog (KLS [(16, tlistK)] [(4, [(26, mbp3C)])] 30) 100 4 122 (loopBody Try.prog 4 22) 0 false mc3Fs (mc3Alts mc3R0 mc3R1) mc3Inv mc3Mu ⟨_, _, mc3Sl2, mc3Bl2, mc3Z2⟩ := by
  intro x y hz
  obtain ⟨l, k, s, _, _⟩ := x
  obtain ⟨⟨_, _, _, _, _⟩, ⟨k1, h1, _⟩, ⟨k2, _, _⟩, ⟨k3, h3, _⟩, ⟨k4, h4, _⟩, m1, m3, m4, _⟩ := y
  refine (mc3Form2 l k s k1 h1 k2 k3 h3 k4 h4 m1 m3 m4 _ _ _).mpr ?_
  obtain ⟨hs, hl, k0, kle, q1, q2, q3, q4, g1, g3, g4, u, hM, hT⟩ := hz
  obtain rfl : s = 4 := hs
  obtain rfl : k = k1 := q1.symm
  obtain rfl : k = k2 := q2.symm
  obtain rfl : k = k3 := q3.symm
  obtain rfl : k = k4 := q4.symm
  obtain rfl : h1 = (m1.length, m1.length) := g1
  obtain rfl : h3 = (m3.length, m3.length) := g3
  obtain rfl : h4 = (m4.length, m4.length) := g4
  have hP : TopOk k m3 (topL k (l.drop u)) := hM.2.2
  have hPl := hP.len
  have hPk := hP.l
  refine ⟨⟨by decide, by decide⟩, Or.inl ⟨m3, rfl, (by first | exact trivial | exact rfl), ⟨rfl, by omega⟩, fun c d hr => ?_, trivial⟩⟩
  obtain ⟨x, _⟩ := c
  obtain ⟨⟨kx, gx, _⟩, mx, _⟩ := d
  obtain ⟨hx, hk2, hg2, hm2⟩ := hr
  obtain rfl : k = kx := hk2.symm
  obtain rfl : gx = (m3.length, m3.length) := hg2
  obtain rfl : m3 = mx := hm2.symm
  replace hx : x = topL k (l.drop u) := hx.trans hP.list
  have hxl : x.length ≤ 150 := by rw [hx]; omega
  have ew : wrapF .i64 (Int.sub (Int.ofNat x.length) 1) = (x.length : Int) - 1 := by
    show wrapF .i64 (Int.sub (x.length : Int) 1) = _
    rw [wsub (by omega) (by omega)]
  refine ⟨mbp3Ok, Or.inr ⟨trivial, trivial, Or.inl ⟨l, Wk.refl _, x, Wk.refl _, m1, rfl, m3, rfl, m4, rfl, (by first | exact trivial | exact rfl), ⟨x.length, ew, Nat.le_refl _, hxl, rfl, k0, kle, rfl, rfl, rfl, rfl, rfl, rfl, rfl, _, hT⟩, fun c1 d1 hr1 => ?_, fun c1 d1 hr1 => ?_, trivial⟩⟩⟩
  · obtain ⟨l2, y, s2, _, _⟩ := c1
    obtain ⟨_, ⟨x1, g1, _⟩, ⟨x2, _⟩, ⟨x3, g3, _⟩, ⟨x4, g4, _⟩, n1, n3, n4, _⟩ := d1
    obtain ⟨hl2, hy, hs2, hx1, hx2, hx3, hx4, hg1, hn1, hg3, hn3, hg4, hA⟩ := hr1
    obtain rfl : l = l2 := hl2.symm
    obtain rfl : k = y := hy.symm
    obtain rfl : s2 = 4 := hs2
    obtain rfl : k = x1 := hx1.symm
    obtain rfl : k = x2 := hx2.symm
    obtain rfl : k = x3 := hx3.symm
    obtain rfl : k = x4 := hx4.symm
    obtain rfl : m1 = n1 := hn1.symm
    obtain rfl : g1 = (m1.length, m1.length) := hg1
    obtain rfl : m3 = n3 := hn3.symm
    obtain rfl : g3 = (m3.length, m3.length) := hg3
    obtain rfl : g4 = (n4.length, n4.length) := hg4
    have hB := hA _ hT
    rw [ew, show ((x.length : Int) - 1 + 1).toNat = x.length by omega, List.take_length, hx] at hB
    exact ⟨trivial, Or.inr (Or.inr (Or.inr (Or.inr ⟨l, Wk.refl _, m1, rfl, m3, rfl, n4, rfl, (by first | exact trivial | exact rfl), ⟨rfl, hl, k0, kle, rfl, rfl, rfl, rfl, rfl, rfl, rfl, u, hM, hB⟩, by show (3 - (3 : Int)).toNat < (3 - (2 : Int)).toNat; decide, fun _ _ h => h, fun _ _ h => h, trivial⟩)))⟩
  · obtain ⟨l2, y, s2, _, _⟩ := c1
    obtain ⟨_, ⟨x1, g1, _⟩, ⟨x2, _⟩, ⟨x3, g3, _⟩, ⟨x4, _⟩, n1, n3, _⟩ := d1
    obtain ⟨hl2, hy, hs2, hx1, hx2, hx3, hx4, hg1, hn1, hg3, hn3, hA⟩ := hr1
    obtain rfl : l = l2 := hl2.symm
    obtain rfl : k = y := hy.symm
    obtain rfl : s2 = 4 := hs2
    obtain rfl : k = x1 := hx1.symm
    obtain rfl : k = x2 := hx2.symm
    obtain rfl : k = x3 := hx3.symm
    obtain rfl : k = x4 := hx4.symm
    obtain rfl : m1 = n1 := hn1.symm
    obtain rfl : g1 = (m1.length, m1.length) := hg1
    obtain rfl : m3 = n3 := hn3.symm
    obtain rfl : g3 = (m3.length, m3.length) := hg3
    have hB := hA _ hT
    rw [ew, show ((x.length : Int) - 1 + 1).toNat = x.length by omega, List.take_length, hx] at hB
    exact ⟨trivial, Or.inr (Or.inr (Or.inr (Or.inl ⟨l, Wk.refl _, m1, rfl, m3, rfl, (by first | exact trivial | exact rfl), ⟨rfl, hl, k0, kle, rfl, rfl, rfl, rfl, rfl, rfl, rfl, u, hM, hB⟩, by show (3 - (3 : Int)).toNat < (3 - (2 : Int)).toNat; decide, fun _ _ h => h, fun _ _ h => h, trivial⟩)))⟩
theorem mc3Step3 : stepsOk Try.prog (KLS [(16, tlistK)] [(4, [(26, mbp3C)])] 30) 100 4 122 (loopBody Try.prog 4 22) 0 false mc3Fs (mc3Alts mc3R0 mc3R1) mc3Inv mc3Mu ⟨_, _, mc3Sl3, mc3Bl3, mc3Z3⟩ := by
  intro x y hz
  obtain ⟨l, k, s, _, _⟩ := x
  obtain ⟨⟨_, _, _, _, _⟩, ⟨k1, h1, _⟩, ⟨k2, _, _⟩, ⟨k3, h3, _⟩, ⟨k4, _, _⟩, m1, m3, _⟩ := y
  refine (mc3Form3 l k s k1 h1 k2 k3 h3 k4 m1 m3 _ _ _).mpr ?_
  obtain ⟨hs, hl, k0, kle, q1, q2, q3, q4, g1, g3, g4, u, hM, hT⟩ := hz
  obtain rfl : s = 4 := hs
  obtain rfl : k = k1 := q1.symm
  obtain rfl : k = k2 := q2.symm
  obtain rfl : k = k3 := q3.symm
  obtain rfl : k = k4 := q4.symm
  obtain rfl : h1 = (m1.length, m1.length) := g1
  obtain rfl : h3 = (m3.length, m3.length) := g3
  have hT2 : TopOk k [] (topL k (([] ++ (topL k (l.take u)).reverse) ++ (topL k (l.drop u)).reverse)) := hT
  rw [top_parts] at hT2
  exact Or.inr ⟨trivial, l, Wk.refl _, m1, rfl, m3, rfl, (by first | exact trivial | exact rfl), rfl, rfl, rfl, rfl, rfl, k0, kle, hl, rfl, hM.1, hT2⟩
theorem mc3Step4 : stepsOk Try.prog (KLS [(16, tlistK)] [(4, [(26, mbp3C)])] 30) 100 4 122 (loopBody Try.prog 4 22) 0 false mc3Fs (mc3Alts mc3R0 mc3R1) mc3Inv mc3Mu ⟨_, _, mc3Sl4, mc3Bl4, mc3Z4⟩ := by
  intro x y hz
  obtain ⟨l, k, s, _, _⟩ := x
  obtain ⟨⟨_, _, _, _, _⟩, ⟨k1, h1, _⟩, ⟨k2, _, _⟩, ⟨k3, h3, _⟩, ⟨k4, h4, _⟩, m1, m3, m4, _⟩ := y
  refine (mc3Form4 l k s k1 h1 k2 k3 h3 k4 h4 m1 m3 m4 _ _ _).mpr ?_
  obtain ⟨hs, hl, k0, kle, q1, q2, q3, q4, g1, g3, g4, u, hM, hT⟩ := hz
  obtain rfl : s = 4 := hs
  obtain rfl : k = k1 := q1.symm
  obtain rfl : k = k2 := q2.symm
  obtain rfl : k = k3 := q3.symm
  obtain rfl : k = k4 := q4.symm
  obtain rfl : h1 = (m1.length, m1.length) := g1
  obtain rfl : h3 = (m3.length, m3.length) := g3
  obtain rfl : h4 = (m4.length, m4.length) := g4
  have hT2 : TopOk k m4 (topL k (([] ++ (topL k (l.take u)).reverse) ++ (topL k (l.drop u)).reverse)) := hT
  rw [top_parts] at hT2
  exact Or.inl ⟨trivial, l, Wk.refl _, m1, rfl, m3, rfl, m4, rfl, (by first | exact trivial | exact rfl), rfl, rfl, rfl, rfl, rfl, k0, kle, hl, rfl, rfl, hM.1, hT2⟩
theorem mc3Ok : LoopOk Try.prog 4 122 (.loop (loopBody Try.prog 4 22)) mc3C := loop_ok mc3Mu mixed (KLS_ok (cc_cons tlistCc (cc_nil))) rfl (steps_cons mc3Step0 (steps_cons mc3Step1 (steps_cons mc3Step2 (steps_cons mc3Step3 (steps_cons mc3Step4 (steps_nil))))))

noncomputable def mcC : LoopC := orL mc0C (orL mc1C (orL mc2C mc3C))
theorem mcOk : LoopOk Try.prog 4 122 (.loop (loopBody Try.prog 4 22)) mcC := orL_ok mc0Ok (orL_ok mc1Ok (orL_ok mc2Ok mc3Ok))

end Go.Proofs.Ytfcdpdejoogapaa
