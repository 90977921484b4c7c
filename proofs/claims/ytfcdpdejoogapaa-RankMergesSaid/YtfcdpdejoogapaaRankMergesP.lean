/- Forms and contracts, printed by gx.py. -/
import Derived.Test.YtfcdpdejoogapaaRows
import Derived.Test.YtfcdpdejoogapaaDvUse
import Derived.Test.YtfcdpdejoogapaaDvArg
import Derived.ProofKit
import Derived.Test.YtfcdpdejoogapaaBase
import Derived.Test.YtfcdpdejoogapaaSort
import Derived.Test.YtfcdpdejoogapaaDvSort
import Derived.Test.YtfcdpdejoogapaaDvHp
import Derived.Test.YtfcdpdejoogapaaRank
import Derived.Test.YtfcdpdejoogapaaHeap
import Derived.Test.YtfcdpdejoogapaaDvStab
import Derived.Test.YtfcdpdejoogapaaRankMergesA
import Derived.Test.YtfcdpdejoogapaaRankMergesB
namespace Go.Proofs.Ytfcdpdejoogapaa
open Go.Det Go.RowKit
set_option linter.unusedVariables false
set_option linter.unusedSimpArgs false
set_option maxRecDepth 100000
def sameMPre : (List Near) × (List Near) × Unit → Prop := fun (a, (b, ())) => sameNPre (a, (b, ())) ∧ (decide (a = b)) = true
noncomputable def sameMK : CallC := valC sameNT sameMPre (fun _ => .bool true)
theorem sameMCc : CcOk Try.prog 17 sameMK := val_ok rfl (fun ⟨a, ⟨b, _⟩⟩ h => by have := sameNVal a b h.1; rw [show sameNRes _ = .bool true from congrArg AV.bool h.2] at this; exact this)

theorem min_len {k : Int} (h : 0 ≤ k) {l : List Near} : eqInt (Int.ofNat (topL k l).length) (ifb (leInt k (Int.ofNat l.length)) k (Int.ofNat l.length)) = true := by
  rw [eqInt_iff, topL_len, ifb_eq, leInt_eq]
  by_cases c : k ≤ Int.ofNat l.length
  · rw [if_pos (by simpa using c)]; simp only [Int.ofNat_eq_natCast] at *; omega
  · rw [if_neg (by simpa using c)]; simp only [Int.ofNat_eq_natCast] at *; omega

/-! wayfinder/rank.New -/
abbrev newYZ := (Int × Unit) × (Unit)
noncomputable def newYT : Tel (Int × Unit) := .cons 0 (.int .i64) (.nil)
noncomputable def newYBl : BTel (Unit) := .nil
noncomputable def newYRes (R0 : newYZ → (Unit × Unit × Unit) → ((Int × Unit × Unit) × Unit) → Prop) : List (Res newYZ) := [⟨Unit × Unit × Unit, (Int × Unit × Unit) × Unit, .cons 0 (.ptr 0) (.cons 1 (.num .i64 0) (.nil)), .cons (.row (.cons 0 (.int .i64) (.cons 1 (.nilS) (.nil)))) (.nil), R0⟩]

theorem newYFn (k : Int) (R0 : newYZ → (Unit × Unit × Unit) → ((Int × Unit × Unit) × Unit) → Prop) : (callW Try.prog (runW Try.prog (KL [] []) 200) 12 (newYT.cells id (k, ())) (stL false (newYBl.obs id ())) (fun v st => resAny 0 ((k, ()), ()) v st (newYRes R0))) =
  ( ifp (!leInt (0 : Int) k) False (ifp (!leInt k (16777216 : Int)) False (true = true ∧ R0 ((k, ()), ()) ((), (), ()) ((k, (), ()), ())))) := by kernel_rfl

def newYPre : newYZ → Prop := fun ((k, ()), ()) => 0 ≤ k ∧ k ≤ 16777216
def newYR0 : newYZ → (Unit × Unit × Unit) → ((Int × Unit × Unit) × Unit) → Prop := fun ((k, ()), ()) _ ((k2, _), _) => k2 = k
noncomputable def newYK : CallC := callC 0 newYT newYBl newYPre (newYRes newYR0)

theorem newYStep (z : newYZ) (hp : newYPre z) : callW Try.prog (runW Try.prog (KL [] []) 200) 12 (newYT.cells id z.1) (stL false (newYBl.obs id z.2)) (fun v st => resAny 0 z v st (newYRes newYR0)) := by
  obtain ⟨⟨k, _⟩, _⟩ := z
  refine (newYFn k _).mpr ?_
  obtain ⟨h1, h2⟩ := hp
  rw [ifp_lt, if_neg (by omega), ifp_lt, if_neg (by omega)]
  exact ⟨rfl, rfl⟩
theorem newYCc : CcOk Try.prog 12 newYK := call_ok mixed (KL_ok (cc_nil)) rfl newYStep

theorem maR_nil {k : Int} (k0 : 0 ≤ k) (u : Nat) : MaR k [] u [] [] [] := by
  have h : TopOk k [] [] := ⟨List.Perm.refl _, List.Pairwise.nil, fun j hj => by simp at hj, by simpa using k0⟩
  refine ⟨?_, ?_, ?_⟩
  · rw [top_nil]; exact h
  · rw [List.take_nil, top_nil]; exact h
  · rw [List.drop_nil, top_nil]; exact h
theorem top_take (k : Int) (l : List Near) : (nearSort l).take (topL k l).length = topL k l := by
  rw [topL, List.length_take]
  rcases Nat.le_total k.toNat (nearSort l).length with h | h
  · rw [Nat.min_eq_left h]
  · rw [Nat.min_eq_right h, List.take_of_length_le (Nat.le_refl _), List.take_of_length_le h]
theorem min_is {k : Int} (h : 0 ≤ k) (l : List Near) : ifb (leInt k (Int.ofNat l.length)) k (Int.ofNat l.length) = Int.ofNat (topL k l).length := (eqInt_iff.1 (min_len h)).symm
theorem TopOk.nilL {k : Int} {L : List Near} (h : TopOk k [] L) : L = [] := List.length_eq_zero_iff.1 h.len.symm

/-! The law RankMerges. -/
noncomputable def rankMergesT : Tel ((List Near) × Int × Int × Unit) := .cons 0 (.lst En) (.cons 1 (.int .i64) (.cons 2 (.int .i64) (.nil)))
abbrev rankMergesShapes : List Sh := [.slice (.fcons (.int .i64) (.fcons (.int .i64) .fnil)), .int .i64, .int .i64]

theorem rankMergesFn (l : List Near) (c : Int) (n : Int) : (callW Try.prog (runW Try.prog (KLS [(10, lives04K), (11, pickK), (12, newYK), (14, addK), (16, tlistK), (18, sortedK), (17, sameMK)] [(4, [(15, maC), (22, mcC)])] 30) 300) 4 (rankMergesT.cells id (l, (c, (n, ())))) (stB false) (fun v _ => yesQ v)) =
  ( True ∧ ifp (!leInt (Int.ofNat l.length) (150 : Int)) True (pickPre (n, (150 : Int), ()) ∧ pickPre (c, wrapF IntKind.i64 ((Int.ofNat l.length).add (1 : Int)),
  ()) ∧ true = true ∧ newYPre ((pickV n (150 : Int), ()), ()) ∧ (∀ c_1 d, newYR0 ((pickV n (150 : Int), ()), ()) c_1 d → (1 : Nat) ≤ (1 : Nat) ∧ true = true ∧
  newYPre ((pickV n (150 : Int), ()), ()) ∧ (∀ c_2 d_1, newYR0 ((pickV n (150 : Int), ()), ()) c_2 d_1 → (1 : Nat) ≤ (1 : Nat) ∧ true = true ∧ newYPre ((pickV n
  (150 : Int), ()), ()) ∧ (∀ c_3 d_2, newYR0 ((pickV n (150 : Int), ()), ()) c_3 d_2 → (1 : Nat) ≤ (1 : Nat) ∧ true = true ∧ newYPre ((pickV n (150 : Int), ()),
  ()) ∧ (∀ c_4 d_3, newYR0 ((pickV n (150 : Int), ()), ()) c_4 d_3 → (1 : Nat) ≤ (1 : Nat) ∧ LoopOk Try.prog (4 : FuncId) (122 : Nat) (loopBody Try.prog (4 :
  FuncId) (15 : Nat)).loop maC ∧ True ∧ True ∧ ((∃ l_1, VW l l_1 ∧ False) ∨ (∃ l_1, VW l l_1 ∧ true = true ∧ maInv ((l_1, pickV c (wrapF IntKind.i64 ((Int.ofNat
  l.length).add (1 : Int))), pickV n (150 : Int), (4 : Nat), (0 : Int), ()), ((), (), (), (), ()), (d.1.1, ((0 : Nat), (0 : Nat)), ()), (d_1.1.1, ((0 : Nat), (0
  : Nat)), ()), (d_2.1.1, ((0 : Nat), (0 : Nat)), ()), (d_3.1.1, (), ()), [], [], [], ()) ∧ (∀ c_5 d_4, maR0 ((l_1, pickV c (wrapF IntKind.i64 ((Int.ofNat
  l.length).add (1 : Int))), pickV n (150 : Int), (4 : Nat), (0 : Int), ()), ((), (), (), (), ()), (d.1.1, ((0 : Nat), (0 : Nat)), ()), (d_1.1.1, ((0 : Nat), (0
  : Nat)), ()), (d_2.1.1, ((0 : Nat), (0 : Nat)), ()), (d_3.1.1, (), ()), [], [], [], ()) c_5 d_4 → LoopOk Try.prog (4 : FuncId) (122 : Nat) (loopBody Try.prog
  (4 : FuncId) (22 : Nat)).loop mcC ∧ (True ∧ True ∧ ((∃ l, VW c_5.1 l ∧ ∃ l_2, FE d_4.2.2.2.2.2.1 l_2 ∧ ∃ l_3, FE d_4.2.2.2.2.2.2.1 l_3 ∧ ∃ l_4, FE
  d_4.2.2.2.2.2.2.2.1 l_4 ∧ true = true ∧ mc0Inv ((l, c_5.2.2.1, c_5.2.2.2.1, (1 : Int), ()), ((), (), (), (), ()), (d_4.2.1.1, (d_4.2.1.2.1.fst,
  d_4.2.1.2.1.snd), ()), (d_4.2.2.1.1, (d_4.2.2.1.2.1.fst, d_4.2.2.1.2.1.snd), ()), (d_4.2.2.2.1.1, (d_4.2.2.2.1.2.1.fst, d_4.2.2.2.1.2.1.snd), ()),
  (d_4.2.2.2.2.1.1, ((0 : Nat), (0 : Nat)), ()), l_2, l_3, l_4, [], ()) ∧ (∀ c d, mc0R0 ((l, c_5.2.2.1, c_5.2.2.2.1, (1 : Int), ()), ((), (), (), (), ()),
  (d_4.2.1.1, (d_4.2.1.2.1.fst, d_4.2.1.2.1.snd), ()), (d_4.2.2.1.1, (d_4.2.2.1.2.1.fst, d_4.2.2.1.2.1.snd), ()), (d_4.2.2.2.1.1, (d_4.2.2.2.1.2.1.fst,
  d_4.2.2.2.1.2.1.snd), ()), (d_4.2.2.2.2.1.1, ((0 : Nat), (0 : Nat)), ()), l_2, l_3, l_4, [], ()) c d → idxOk (0 : Int) c.2.2.1 ∧ ((∃ l, FE d.2.2.2.2.2.1 l ∧
  true = true ∧ list1Pre (((), ()), (d.2.1.1, (d.2.1.2.1.fst, d.2.1.2.1.snd), ()), l, ()) ∧ (∀ c_6 d_5, list1R0 (((), ()), (d.2.1.1, (d.2.1.2.1.fst,
  d.2.1.2.1.snd), ()), l, ()) c_6 d_5 → idxOk (3 : Int) c.2.2.1 ∧ ((∃ l, FE d.2.2.2.2.2.2.2.2.1 l ∧ true = true ∧ list1Pre (((), ()), (d.2.2.2.2.1.1,
  (d.2.2.2.2.1.2.1.fst, d.2.2.2.2.1.2.1.snd), ()), l, ()) ∧ (∀ c_7 d_6, list1R0 (((), ()), (d.2.2.2.2.1.1, (d.2.2.2.2.1.2.1.fst, d.2.2.2.2.1.2.1.snd), ()), l,
  ()) c_7 d_6 → ∃ l, VW c_6.1 l ∧ ∃ l_5, VW c_7.1 l_5 ∧ sameMPre (l, l_5, ()) ∧ idxOk (0 : Int) c.2.2.1 ∧ ((∃ l, FE d_5.2.1 l ∧ true = true ∧ list1Pre (((), ()),
  (d_5.1.1, (d_5.1.2.1.fst, d_5.1.2.1.snd), ()), l, ()) ∧ (∀ c_8 d, list1R0 (((), ()), (d_5.1.1, (d_5.1.2.1.fst, d_5.1.2.1.snd), ()), l, ()) c_8 d → ∃ l, VW c.1
  l ∧ sortedPre (l, ()) ∧ (0 : Int) ≤ ifb (leInt c.2.1 (Int.ofNat c.1.length)) c.2.1 (Int.ofNat c.1.length) ∧ ifb (leInt c.2.1 (Int.ofNat c.1.length)) c.2.1
  (Int.ofNat c.1.length) ≤ ↑(nearSort l).length ∧ natOf (ifb true (ifb (leInt c.2.1 (Int.ofNat c.1.length)) c.2.1 (Int.ofNat c.1.length)) (ifb (leInt (Int.ofNat
  c.1.length) c.2.1) c.2.1 (Int.ofNat c.1.length))) ≤ (nearSort l).length ∧ (List.flatMap En.f (nearSort l)).length = (nearSort l).length.mul (2 : Nat) ∧ ∃ l_6,
  VW c_8.1 l_6 ∧ ∃ (l_7 : List Near), Wk (AV.vs (List.take (((natOf (ifb true (ifb (leInt c.2.1 (Int.ofNat c.1.length)) c.2.1 (Int.ofNat c.1.length)) (ifb (leInt
  (Int.ofNat c.1.length) c.2.1) c.2.1 (Int.ofNat c.1.length)))).sub (0 : Nat)).mul (2 : Nat)) (List.drop (0 : Nat) (List.flatMap En.f (nearSort l)))) ((natOf
  (ifb true (ifb (leInt c.2.1 (Int.ofNat c.1.length)) c.2.1 (Int.ofNat c.1.length)) (ifb (leInt (Int.ofNat c.1.length) c.2.1) c.2.1 (Int.ofNat c.1.length)))).sub
  (0 : Nat)) ((nearSort l).length.sub (0 : Nat)) (mxEx none false) none (2 : Nat)) (lst En l_7) ∧ sameMPre (l_6, l_7, ()) ∧ True ∧ (AV.ptr (24 : Nat) (0 : Nat) =
  AV.ptr (24 : Nat) (0 : Nat) ∧ True) ∧ True ∧ (AV.int IntKind.i64 (Int.ofNat c.1.length) = AV.int IntKind.i64 (Int.ofNat c.1.length) ∧ AV.int IntKind.i64
  (Int.ofNat c.1.length) = AV.int IntKind.i64 (Int.ofNat c.1.length) ∧ True) ∧ True ∧ True) ∧ True) ∨ False)) ∧ True) ∨ False)) ∧ True) ∨ False)) ∧ (∀ c d, mc0R1
  ((l, c_5.2.2.1, c_5.2.2.2.1, (1 : Int), ()), ((), (), (), (), ()), (d_4.2.1.1, (d_4.2.1.2.1.fst, d_4.2.1.2.1.snd), ()), (d_4.2.2.1.1, (d_4.2.2.1.2.1.fst,
  d_4.2.2.1.2.1.snd), ()), (d_4.2.2.2.1.1, (d_4.2.2.2.1.2.1.fst, d_4.2.2.2.1.2.1.snd), ()), (d_4.2.2.2.2.1.1, ((0 : Nat), (0 : Nat)), ()), l_2, l_3, l_4, [], ())
  c d → idxOk (0 : Int) c.2.2.1 ∧ ((∃ l, FE d.2.2.2.2.2.1 l ∧ true = true ∧ list1Pre (((), ()), (d.2.1.1, (d.2.1.2.1.fst, d.2.1.2.1.snd), ()), l, ()) ∧ (∀ c_6
  d_5, list1R0 (((), ()), (d.2.1.1, (d.2.1.2.1.fst, d.2.1.2.1.snd), ()), l, ()) c_6 d_5 → idxOk (3 : Int) c.2.2.1 ∧ (False ∨ true = true ∧ list0Pre (((), ()),
  (d.2.2.2.2.1.1, (), ()), ()) ∧ (∀ c_7 d_6, list0R0 (((), ()), (d.2.2.2.2.1.1, (), ()), ()) c_7 d_6 → ∃ l, VW c_6.1 l ∧ ∃ l_5, VW c_7.1 l_5 ∧ sameMPre (l, l_5,
  ()) ∧ idxOk (0 : Int) c.2.2.1 ∧ ((∃ l, FE d_5.2.1 l ∧ true = true ∧ list1Pre (((), ()), (d_5.1.1, (d_5.1.2.1.fst, d_5.1.2.1.snd), ()), l, ()) ∧ (∀ c_8 d,
  list1R0 (((), ()), (d_5.1.1, (d_5.1.2.1.fst, d_5.1.2.1.snd), ()), l, ()) c_8 d → ∃ l, VW c.1 l ∧ sortedPre (l, ()) ∧ (0 : Int) ≤ ifb (leInt c.2.1 (Int.ofNat
  c.1.length)) c.2.1 (Int.ofNat c.1.length) ∧ ifb (leInt c.2.1 (Int.ofNat c.1.length)) c.2.1 (Int.ofNat c.1.length) ≤ ↑(nearSort l).length ∧ natOf (ifb true (ifb
  (leInt c.2.1 (Int.ofNat c.1.length)) c.2.1 (Int.ofNat c.1.length)) (ifb (leInt (Int.ofNat c.1.length) c.2.1) c.2.1 (Int.ofNat c.1.length))) ≤ (nearSort
  l).length ∧ (List.flatMap En.f (nearSort l)).length = (nearSort l).length.mul (2 : Nat) ∧ ∃ l_6, VW c_8.1 l_6 ∧ ∃ (l_7 : List Near), Wk (AV.vs (List.take
  (((natOf (ifb true (ifb (leInt c.2.1 (Int.ofNat c.1.length)) c.2.1 (Int.ofNat c.1.length)) (ifb (leInt (Int.ofNat c.1.length) c.2.1) c.2.1 (Int.ofNat
  c.1.length)))).sub (0 : Nat)).mul (2 : Nat)) (List.drop (0 : Nat) (List.flatMap En.f (nearSort l)))) ((natOf (ifb true (ifb (leInt c.2.1 (Int.ofNat
  c.1.length)) c.2.1 (Int.ofNat c.1.length)) (ifb (leInt (Int.ofNat c.1.length) c.2.1) c.2.1 (Int.ofNat c.1.length)))).sub (0 : Nat)) ((nearSort l).length.sub (0
  : Nat)) (mxEx none false) none (2 : Nat)) (lst En l_7) ∧ sameMPre (l_6, l_7, ()) ∧ True ∧ (AV.ptr (24 : Nat) (0 : Nat) = AV.ptr (24 : Nat) (0 : Nat) ∧ True) ∧
  True ∧ (AV.int IntKind.i64 (Int.ofNat c.1.length) = AV.int IntKind.i64 (Int.ofNat c.1.length) ∧ AV.int IntKind.i64 (Int.ofNat c.1.length) = AV.int IntKind.i64
  (Int.ofNat c.1.length) ∧ True) ∧ True ∧ True) ∧ True) ∨ False)) ∧ True)) ∧ True) ∨ False)) ∧ True) ∨ (∃ l, VW c_5.1 l ∧ False) ∨ (∃ l, VW c_5.1 l ∧ False) ∨ (∃
  l, VW c_5.1 l ∧ False) ∨ ∃ l, VW c_5.1 l ∧ False) ∨ True ∧ True ∧ ((∃ l, VW c_5.1 l ∧ False) ∨ (∃ l, VW c_5.1 l ∧ False) ∨ (∃ l, VW c_5.1 l ∧ False) ∨ (∃ l, VW
  c_5.1 l ∧ False) ∨ ∃ l, VW c_5.1 l ∧ False) ∨ True ∧ True ∧ ((∃ l, VW c_5.1 l ∧ False) ∨ (∃ l, VW c_5.1 l ∧ False) ∨ (∃ l, VW c_5.1 l ∧ False) ∨ (∃ l, VW c_5.1
  l ∧ False) ∨ ∃ l, VW c_5.1 l ∧ False) ∨ True ∧ True ∧ ((∃ l, VW c_5.1 l ∧ False) ∨ (∃ l, VW c_5.1 l ∧ False) ∨ (∃ l, VW c_5.1 l ∧ False) ∨ (∃ l, VW c_5.1 l ∧
  False) ∨ ∃ l, VW c_5.1 l ∧ False))) ∧ (∀ c_5 d_4, maR1 ((l_1, pickV c (wrapF IntKind.i64 ((Int.ofNat l.length).add (1 : Int))), pickV n (150 : Int), (4 : Nat),
  (0 : Int), ()), ((), (), (), (), ()), (d.1.1, ((0 : Nat), (0 : Nat)), ()), (d_1.1.1, ((0 : Nat), (0 : Nat)), ()), (d_2.1.1, ((0 : Nat), (0 : Nat)), ()),
  (d_3.1.1, (), ()), [], [], [], ()) c_5 d_4 → LoopOk Try.prog (4 : FuncId) (122 : Nat) (loopBody Try.prog (4 : FuncId) (22 : Nat)).loop mcC ∧ (True ∧ True ∧ ((∃
  l, VW c_5.1 l ∧ False) ∨ (∃ l, VW c_5.1 l ∧ False) ∨ (∃ l, VW c_5.1 l ∧ False) ∨ (∃ l, VW c_5.1 l ∧ False) ∨ ∃ l, VW c_5.1 l ∧ False) ∨ True ∧ True ∧ ((∃ l, VW
  c_5.1 l ∧ true = true ∧ mc1Inv ((l, c_5.2.2.1, c_5.2.2.2.1, (1 : Int), ()), ((), (), (), (), ()), (d_4.2.1.1, (), ()), (d_4.2.2.1.1, (), ()), (d_4.2.2.2.1.1,
  (), ()), (d_4.2.2.2.2.1.1, ((0 : Nat), (0 : Nat)), ()), [], ()) ∧ (∀ c d, mc1R0 ((l, c_5.2.2.1, c_5.2.2.2.1, (1 : Int), ()), ((), (), (), (), ()), (d_4.2.1.1,
  (), ()), (d_4.2.2.1.1, (), ()), (d_4.2.2.2.1.1, (), ()), (d_4.2.2.2.2.1.1, ((0 : Nat), (0 : Nat)), ()), [], ()) c d → idxOk (0 : Int) c.2.2.1 ∧ (False ∨ true =
  true ∧ list0Pre (((), ()), (d.2.1.1, (), ()), ()) ∧ (∀ c_6 d_5, list0R0 (((), ()), (d.2.1.1, (), ()), ()) c_6 d_5 → idxOk (3 : Int) c.2.2.1 ∧ ((∃ l, FE
  d.2.2.2.2.2.1 l ∧ true = true ∧ list1Pre (((), ()), (d.2.2.2.2.1.1, (d.2.2.2.2.1.2.1.fst, d.2.2.2.2.1.2.1.snd), ()), l, ()) ∧ (∀ c_7 d_6, list1R0 (((), ()),
  (d.2.2.2.2.1.1, (d.2.2.2.2.1.2.1.fst, d.2.2.2.2.1.2.1.snd), ()), l, ()) c_7 d_6 → ∃ l, VW c_6.1 l ∧ ∃ l_2, VW c_7.1 l_2 ∧ sameMPre (l, l_2, ()) ∧ idxOk (0 :
  Int) c.2.2.1 ∧ (False ∨ true = true ∧ list0Pre (((), ()), (d_5.1.1, (), ()), ()) ∧ (∀ c_8 d, list0R0 (((), ()), (d_5.1.1, (), ()), ()) c_8 d → ∃ l, VW c.1 l ∧
  sortedPre (l, ()) ∧ (0 : Int) ≤ ifb (leInt c.2.1 (Int.ofNat c.1.length)) c.2.1 (Int.ofNat c.1.length) ∧ ifb (leInt c.2.1 (Int.ofNat c.1.length)) c.2.1
  (Int.ofNat c.1.length) ≤ ↑(nearSort l).length ∧ natOf (ifb true (ifb (leInt c.2.1 (Int.ofNat c.1.length)) c.2.1 (Int.ofNat c.1.length)) (ifb (leInt (Int.ofNat
  c.1.length) c.2.1) c.2.1 (Int.ofNat c.1.length))) ≤ (nearSort l).length ∧ (List.flatMap En.f (nearSort l)).length = (nearSort l).length.mul (2 : Nat) ∧ ∃ l_3,
  VW c_8.1 l_3 ∧ ∃ (l_4 : List Near), Wk (AV.vs (List.take (((natOf (ifb true (ifb (leInt c.2.1 (Int.ofNat c.1.length)) c.2.1 (Int.ofNat c.1.length)) (ifb (leInt
  (Int.ofNat c.1.length) c.2.1) c.2.1 (Int.ofNat c.1.length)))).sub (0 : Nat)).mul (2 : Nat)) (List.drop (0 : Nat) (List.flatMap En.f (nearSort l)))) ((natOf
  (ifb true (ifb (leInt c.2.1 (Int.ofNat c.1.length)) c.2.1 (Int.ofNat c.1.length)) (ifb (leInt (Int.ofNat c.1.length) c.2.1) c.2.1 (Int.ofNat c.1.length)))).sub
  (0 : Nat)) ((nearSort l).length.sub (0 : Nat)) (mxEx none false) none (2 : Nat)) (lst En l_4) ∧ sameMPre (l_3, l_4, ()) ∧ True ∧ (AV.ptr (21 : Nat) (0 : Nat) =
  AV.ptr (21 : Nat) (0 : Nat) ∧ True) ∧ True ∧ (AV.int IntKind.i64 (Int.ofNat c.1.length) = AV.int IntKind.i64 (Int.ofNat c.1.length) ∧ AV.int IntKind.i64
  (Int.ofNat c.1.length) = AV.int IntKind.i64 (Int.ofNat c.1.length) ∧ True) ∧ True ∧ True) ∧ True)) ∧ True) ∨ False)) ∧ True)) ∧ (∀ c d, mc1R1 ((l, c_5.2.2.1,
  c_5.2.2.2.1, (1 : Int), ()), ((), (), (), (), ()), (d_4.2.1.1, (), ()), (d_4.2.2.1.1, (), ()), (d_4.2.2.2.1.1, (), ()), (d_4.2.2.2.2.1.1, ((0 : Nat), (0 :
  Nat)), ()), [], ()) c d → idxOk (0 : Int) c.2.2.1 ∧ (False ∨ true = true ∧ list0Pre (((), ()), (d.2.1.1, (), ()), ()) ∧ (∀ c_6 d_5, list0R0 (((), ()),
  (d.2.1.1, (), ()), ()) c_6 d_5 → idxOk (3 : Int) c.2.2.1 ∧ (False ∨ true = true ∧ list0Pre (((), ()), (d.2.2.2.2.1.1, (), ()), ()) ∧ (∀ c_7 d_6, list0R0 (((),
  ()), (d.2.2.2.2.1.1, (), ()), ()) c_7 d_6 → ∃ l, VW c_6.1 l ∧ ∃ l_2, VW c_7.1 l_2 ∧ sameMPre (l, l_2, ()) ∧ idxOk (0 : Int) c.2.2.1 ∧ (False ∨ true = true ∧
  list0Pre (((), ()), (d_5.1.1, (), ()), ()) ∧ (∀ c_8 d, list0R0 (((), ()), (d_5.1.1, (), ()), ()) c_8 d → ∃ l, VW c.1 l ∧ sortedPre (l, ()) ∧ (0 : Int) ≤ ifb
  (leInt c.2.1 (Int.ofNat c.1.length)) c.2.1 (Int.ofNat c.1.length) ∧ ifb (leInt c.2.1 (Int.ofNat c.1.length)) c.2.1 (Int.ofNat c.1.length) ≤ ↑(nearSort
  l).length ∧ natOf (ifb true (ifb (leInt c.2.1 (Int.ofNat c.1.length)) c.2.1 (Int.ofNat c.1.length)) (ifb (leInt (Int.ofNat c.1.length) c.2.1) c.2.1 (Int.ofNat
  c.1.length))) ≤ (nearSort l).length ∧ (List.flatMap En.f (nearSort l)).length = (nearSort l).length.mul (2 : Nat) ∧ ∃ l_3, VW c_8.1 l_3 ∧ ∃ (l_4 : List Near),
  Wk (AV.vs (List.take (((natOf (ifb true (ifb (leInt c.2.1 (Int.ofNat c.1.length)) c.2.1 (Int.ofNat c.1.length)) (ifb (leInt (Int.ofNat c.1.length) c.2.1) c.2.1
  (Int.ofNat c.1.length)))).sub (0 : Nat)).mul (2 : Nat)) (List.drop (0 : Nat) (List.flatMap En.f (nearSort l)))) ((natOf (ifb true (ifb (leInt c.2.1 (Int.ofNat
  c.1.length)) c.2.1 (Int.ofNat c.1.length)) (ifb (leInt (Int.ofNat c.1.length) c.2.1) c.2.1 (Int.ofNat c.1.length)))).sub (0 : Nat)) ((nearSort l).length.sub (0
  : Nat)) (mxEx none false) none (2 : Nat)) (lst En l_4) ∧ sameMPre (l_3, l_4, ()) ∧ True ∧ (AV.ptr (21 : Nat) (0 : Nat) = AV.ptr (21 : Nat) (0 : Nat) ∧ True) ∧
  True ∧ (AV.int IntKind.i64 (Int.ofNat c.1.length) = AV.int IntKind.i64 (Int.ofNat c.1.length) ∧ AV.int IntKind.i64 (Int.ofNat c.1.length) = AV.int IntKind.i64
  (Int.ofNat c.1.length) ∧ True) ∧ True ∧ True) ∧ True)) ∧ True)) ∧ True)) ∧ True) ∨ (∃ l, VW c_5.1 l ∧ False) ∨ (∃ l, VW c_5.1 l ∧ False) ∨ (∃ l, VW c_5.1 l ∧
  False) ∨ ∃ l, VW c_5.1 l ∧ False) ∨ True ∧ True ∧ ((∃ l, VW c_5.1 l ∧ False) ∨ (∃ l, VW c_5.1 l ∧ False) ∨ (∃ l, VW c_5.1 l ∧ False) ∨ (∃ l, VW c_5.1 l ∧
  False) ∨ ∃ l, VW c_5.1 l ∧ False) ∨ True ∧ True ∧ ((∃ l, VW c_5.1 l ∧ False) ∨ (∃ l, VW c_5.1 l ∧ False) ∨ (∃ l, VW c_5.1 l ∧ False) ∨ (∃ l, VW c_5.1 l ∧
  False) ∨ ∃ l, VW c_5.1 l ∧ False))) ∧ (∀ c_5 d_4, maR2 ((l_1, pickV c (wrapF IntKind.i64 ((Int.ofNat l.length).add (1 : Int))), pickV n (150 : Int), (4 : Nat),
  (0 : Int), ()), ((), (), (), (), ()), (d.1.1, ((0 : Nat), (0 : Nat)), ()), (d_1.1.1, ((0 : Nat), (0 : Nat)), ()), (d_2.1.1, ((0 : Nat), (0 : Nat)), ()),
  (d_3.1.1, (), ()), [], [], [], ()) c_5 d_4 → LoopOk Try.prog (4 : FuncId) (122 : Nat) (loopBody Try.prog (4 : FuncId) (22 : Nat)).loop mcC ∧ (True ∧ True ∧ ((∃
  l, VW c_5.1 l ∧ False) ∨ (∃ l, VW c_5.1 l ∧ False) ∨ (∃ l, VW c_5.1 l ∧ False) ∨ (∃ l, VW c_5.1 l ∧ False) ∨ ∃ l, VW c_5.1 l ∧ False) ∨ True ∧ True ∧ ((∃ l, VW
  c_5.1 l ∧ False) ∨ (∃ l, VW c_5.1 l ∧ False) ∨ (∃ l, VW c_5.1 l ∧ False) ∨ (∃ l, VW c_5.1 l ∧ False) ∨ ∃ l, VW c_5.1 l ∧ False) ∨ True ∧ True ∧ ((∃ l, VW c_5.1
  l ∧ ∃ l_2, FE d_4.2.2.2.2.2.1 l_2 ∧ ∃ l_3, FE d_4.2.2.2.2.2.2.1 l_3 ∧ true = true ∧ mc2Inv ((l, c_5.2.2.1, c_5.2.2.2.1, (1 : Int), ()), ((), (), (), (), ()),
  (d_4.2.1.1, (d_4.2.1.2.1.fst, d_4.2.1.2.1.snd), ()), (d_4.2.2.1.1, (d_4.2.2.1.2.1.fst, d_4.2.2.1.2.1.snd), ()), (d_4.2.2.2.1.1, (), ()), (d_4.2.2.2.2.1.1, ((0
  : Nat), (0 : Nat)), ()), l_2, l_3, [], ()) ∧ (∀ c d, mc2R0 ((l, c_5.2.2.1, c_5.2.2.2.1, (1 : Int), ()), ((), (), (), (), ()), (d_4.2.1.1, (d_4.2.1.2.1.fst,
  d_4.2.1.2.1.snd), ()), (d_4.2.2.1.1, (d_4.2.2.1.2.1.fst, d_4.2.2.1.2.1.snd), ()), (d_4.2.2.2.1.1, (), ()), (d_4.2.2.2.2.1.1, ((0 : Nat), (0 : Nat)), ()), l_2,
  l_3, [], ()) c d → idxOk (0 : Int) c.2.2.1 ∧ ((∃ l, FE d.2.2.2.2.2.1 l ∧ true = true ∧ list1Pre (((), ()), (d.2.1.1, (d.2.1.2.1.fst, d.2.1.2.1.snd), ()), l,
  ()) ∧ (∀ c_6 d_5, list1R0 (((), ()), (d.2.1.1, (d.2.1.2.1.fst, d.2.1.2.1.snd), ()), l, ()) c_6 d_5 → idxOk (3 : Int) c.2.2.1 ∧ ((∃ l, FE d.2.2.2.2.2.2.2.1 l ∧
  true = true ∧ list1Pre (((), ()), (d.2.2.2.2.1.1, (d.2.2.2.2.1.2.1.fst, d.2.2.2.2.1.2.1.snd), ()), l, ()) ∧ (∀ c_7 d_6, list1R0 (((), ()), (d.2.2.2.2.1.1,
  (d.2.2.2.2.1.2.1.fst, d.2.2.2.2.1.2.1.snd), ()), l, ()) c_7 d_6 → ∃ l, VW c_6.1 l ∧ ∃ l_4, VW c_7.1 l_4 ∧ sameMPre (l, l_4, ()) ∧ idxOk (0 : Int) c.2.2.1 ∧ ((∃
  l, FE d_5.2.1 l ∧ true = true ∧ list1Pre (((), ()), (d_5.1.1, (d_5.1.2.1.fst, d_5.1.2.1.snd), ()), l, ()) ∧ (∀ c_8 d, list1R0 (((), ()), (d_5.1.1,
  (d_5.1.2.1.fst, d_5.1.2.1.snd), ()), l, ()) c_8 d → ∃ l, VW c.1 l ∧ sortedPre (l, ()) ∧ (0 : Int) ≤ ifb (leInt c.2.1 (Int.ofNat c.1.length)) c.2.1 (Int.ofNat
  c.1.length) ∧ ifb (leInt c.2.1 (Int.ofNat c.1.length)) c.2.1 (Int.ofNat c.1.length) ≤ ↑(nearSort l).length ∧ natOf (ifb true (ifb (leInt c.2.1 (Int.ofNat
  c.1.length)) c.2.1 (Int.ofNat c.1.length)) (ifb (leInt (Int.ofNat c.1.length) c.2.1) c.2.1 (Int.ofNat c.1.length))) ≤ (nearSort l).length ∧ (List.flatMap En.f
  (nearSort l)).length = (nearSort l).length.mul (2 : Nat) ∧ ∃ l_5, VW c_8.1 l_5 ∧ ∃ (l_6 : List Near), Wk (AV.vs (List.take (((natOf (ifb true (ifb (leInt c.2.1
  (Int.ofNat c.1.length)) c.2.1 (Int.ofNat c.1.length)) (ifb (leInt (Int.ofNat c.1.length) c.2.1) c.2.1 (Int.ofNat c.1.length)))).sub (0 : Nat)).mul (2 : Nat))
  (List.drop (0 : Nat) (List.flatMap En.f (nearSort l)))) ((natOf (ifb true (ifb (leInt c.2.1 (Int.ofNat c.1.length)) c.2.1 (Int.ofNat c.1.length)) (ifb (leInt
  (Int.ofNat c.1.length) c.2.1) c.2.1 (Int.ofNat c.1.length)))).sub (0 : Nat)) ((nearSort l).length.sub (0 : Nat)) (mxEx none false) none (2 : Nat)) (lst En l_6)
  ∧ sameMPre (l_5, l_6, ()) ∧ True ∧ (AV.ptr (23 : Nat) (0 : Nat) = AV.ptr (23 : Nat) (0 : Nat) ∧ True) ∧ True ∧ (AV.int IntKind.i64 (Int.ofNat c.1.length) =
  AV.int IntKind.i64 (Int.ofNat c.1.length) ∧ AV.int IntKind.i64 (Int.ofNat c.1.length) = AV.int IntKind.i64 (Int.ofNat c.1.length) ∧ True) ∧ True ∧ True) ∧
  True) ∨ False)) ∧ True) ∨ False)) ∧ True) ∨ False)) ∧ (∀ c d, mc2R1 ((l, c_5.2.2.1, c_5.2.2.2.1, (1 : Int), ()), ((), (), (), (), ()), (d_4.2.1.1,
  (d_4.2.1.2.1.fst, d_4.2.1.2.1.snd), ()), (d_4.2.2.1.1, (d_4.2.2.1.2.1.fst, d_4.2.2.1.2.1.snd), ()), (d_4.2.2.2.1.1, (), ()), (d_4.2.2.2.2.1.1, ((0 : Nat), (0 :
  Nat)), ()), l_2, l_3, [], ()) c d → idxOk (0 : Int) c.2.2.1 ∧ ((∃ l, FE d.2.2.2.2.2.1 l ∧ true = true ∧ list1Pre (((), ()), (d.2.1.1, (d.2.1.2.1.fst,
  d.2.1.2.1.snd), ()), l, ()) ∧ (∀ c_6 d_5, list1R0 (((), ()), (d.2.1.1, (d.2.1.2.1.fst, d.2.1.2.1.snd), ()), l, ()) c_6 d_5 → idxOk (3 : Int) c.2.2.1 ∧ (False ∨
  true = true ∧ list0Pre (((), ()), (d.2.2.2.2.1.1, (), ()), ()) ∧ (∀ c_7 d_6, list0R0 (((), ()), (d.2.2.2.2.1.1, (), ()), ()) c_7 d_6 → ∃ l, VW c_6.1 l ∧ ∃ l_4,
  VW c_7.1 l_4 ∧ sameMPre (l, l_4, ()) ∧ idxOk (0 : Int) c.2.2.1 ∧ ((∃ l, FE d_5.2.1 l ∧ true = true ∧ list1Pre (((), ()), (d_5.1.1, (d_5.1.2.1.fst,
  d_5.1.2.1.snd), ()), l, ()) ∧ (∀ c_8 d, list1R0 (((), ()), (d_5.1.1, (d_5.1.2.1.fst, d_5.1.2.1.snd), ()), l, ()) c_8 d → ∃ l, VW c.1 l ∧ sortedPre (l, ()) ∧ (0
  : Int) ≤ ifb (leInt c.2.1 (Int.ofNat c.1.length)) c.2.1 (Int.ofNat c.1.length) ∧ ifb (leInt c.2.1 (Int.ofNat c.1.length)) c.2.1 (Int.ofNat c.1.length) ≤
  ↑(nearSort l).length ∧ natOf (ifb true (ifb (leInt c.2.1 (Int.ofNat c.1.length)) c.2.1 (Int.ofNat c.1.length)) (ifb (leInt (Int.ofNat c.1.length) c.2.1) c.2.1
  (Int.ofNat c.1.length))) ≤ (nearSort l).length ∧ (List.flatMap En.f (nearSort l)).length = (nearSort l).length.mul (2 : Nat) ∧ ∃ l_5, VW c_8.1 l_5 ∧ ∃ (l_6 :
  List Near), Wk (AV.vs (List.take (((natOf (ifb true (ifb (leInt c.2.1 (Int.ofNat c.1.length)) c.2.1 (Int.ofNat c.1.length)) (ifb (leInt (Int.ofNat c.1.length)
  c.2.1) c.2.1 (Int.ofNat c.1.length)))).sub (0 : Nat)).mul (2 : Nat)) (List.drop (0 : Nat) (List.flatMap En.f (nearSort l)))) ((natOf (ifb true (ifb (leInt
  c.2.1 (Int.ofNat c.1.length)) c.2.1 (Int.ofNat c.1.length)) (ifb (leInt (Int.ofNat c.1.length) c.2.1) c.2.1 (Int.ofNat c.1.length)))).sub (0 : Nat)) ((nearSort
  l).length.sub (0 : Nat)) (mxEx none false) none (2 : Nat)) (lst En l_6) ∧ sameMPre (l_5, l_6, ()) ∧ True ∧ (AV.ptr (23 : Nat) (0 : Nat) = AV.ptr (23 : Nat) (0
  : Nat) ∧ True) ∧ True ∧ (AV.int IntKind.i64 (Int.ofNat c.1.length) = AV.int IntKind.i64 (Int.ofNat c.1.length) ∧ AV.int IntKind.i64 (Int.ofNat c.1.length) =
  AV.int IntKind.i64 (Int.ofNat c.1.length) ∧ True) ∧ True ∧ True) ∧ True) ∨ False)) ∧ True)) ∧ True) ∨ False)) ∧ True) ∨ (∃ l, VW c_5.1 l ∧ False) ∨ (∃ l, VW
  c_5.1 l ∧ False) ∨ (∃ l, VW c_5.1 l ∧ False) ∨ ∃ l, VW c_5.1 l ∧ False) ∨ True ∧ True ∧ ((∃ l, VW c_5.1 l ∧ False) ∨ (∃ l, VW c_5.1 l ∧ False) ∨ (∃ l, VW c_5.1
  l ∧ False) ∨ (∃ l, VW c_5.1 l ∧ False) ∨ ∃ l, VW c_5.1 l ∧ False))) ∧ (∀ c_5 d_4, maR3 ((l_1, pickV c (wrapF IntKind.i64 ((Int.ofNat l.length).add (1 : Int))),
  pickV n (150 : Int), (4 : Nat), (0 : Int), ()), ((), (), (), (), ()), (d.1.1, ((0 : Nat), (0 : Nat)), ()), (d_1.1.1, ((0 : Nat), (0 : Nat)), ()), (d_2.1.1, ((0
  : Nat), (0 : Nat)), ()), (d_3.1.1, (), ()), [], [], [], ()) c_5 d_4 → LoopOk Try.prog (4 : FuncId) (122 : Nat) (loopBody Try.prog (4 : FuncId) (22 : Nat)).loop
  mcC ∧ (True ∧ True ∧ ((∃ l, VW c_5.1 l ∧ False) ∨ (∃ l, VW c_5.1 l ∧ False) ∨ (∃ l, VW c_5.1 l ∧ False) ∨ (∃ l, VW c_5.1 l ∧ False) ∨ ∃ l, VW c_5.1 l ∧ False)
  ∨ True ∧ True ∧ ((∃ l, VW c_5.1 l ∧ False) ∨ (∃ l, VW c_5.1 l ∧ False) ∨ (∃ l, VW c_5.1 l ∧ False) ∨ (∃ l, VW c_5.1 l ∧ False) ∨ ∃ l, VW c_5.1 l ∧ False) ∨
  True ∧ True ∧ ((∃ l, VW c_5.1 l ∧ False) ∨ (∃ l, VW c_5.1 l ∧ False) ∨ (∃ l, VW c_5.1 l ∧ False) ∨ (∃ l, VW c_5.1 l ∧ False) ∨ ∃ l, VW c_5.1 l ∧ False) ∨ True
  ∧ True ∧ ((∃ l, VW c_5.1 l ∧ ∃ l_2, FE d_4.2.2.2.2.2.1 l_2 ∧ ∃ l_3, FE d_4.2.2.2.2.2.2.1 l_3 ∧ true = true ∧ mc3Inv ((l, c_5.2.2.1, c_5.2.2.2.1, (1 : Int),
  ()), ((), (), (), (), ()), (d_4.2.1.1, (d_4.2.1.2.1.fst, d_4.2.1.2.1.snd), ()), (d_4.2.2.1.1, (), ()), (d_4.2.2.2.1.1, (d_4.2.2.2.1.2.1.fst,
  d_4.2.2.2.1.2.1.snd), ()), (d_4.2.2.2.2.1.1, ((0 : Nat), (0 : Nat)), ()), l_2, l_3, [], ()) ∧ (∀ c d, mc3R0 ((l, c_5.2.2.1, c_5.2.2.2.1, (1 : Int), ()), ((),
  (), (), (), ()), (d_4.2.1.1, (d_4.2.1.2.1.fst, d_4.2.1.2.1.snd), ()), (d_4.2.2.1.1, (), ()), (d_4.2.2.2.1.1, (d_4.2.2.2.1.2.1.fst, d_4.2.2.2.1.2.1.snd), ()),
  (d_4.2.2.2.2.1.1, ((0 : Nat), (0 : Nat)), ()), l_2, l_3, [], ()) c d → idxOk (0 : Int) c.2.2.1 ∧ ((∃ l, FE d.2.2.2.2.2.1 l ∧ true = true ∧ list1Pre (((), ()),
  (d.2.1.1, (d.2.1.2.1.fst, d.2.1.2.1.snd), ()), l, ()) ∧ (∀ c_6 d_5, list1R0 (((), ()), (d.2.1.1, (d.2.1.2.1.fst, d.2.1.2.1.snd), ()), l, ()) c_6 d_5 → idxOk (3
  : Int) c.2.2.1 ∧ ((∃ l, FE d.2.2.2.2.2.2.2.1 l ∧ true = true ∧ list1Pre (((), ()), (d.2.2.2.2.1.1, (d.2.2.2.2.1.2.1.fst, d.2.2.2.2.1.2.1.snd), ()), l, ()) ∧ (∀
  c_7 d_6, list1R0 (((), ()), (d.2.2.2.2.1.1, (d.2.2.2.2.1.2.1.fst, d.2.2.2.2.1.2.1.snd), ()), l, ()) c_7 d_6 → ∃ l, VW c_6.1 l ∧ ∃ l_4, VW c_7.1 l_4 ∧ sameMPre
  (l, l_4, ()) ∧ idxOk (0 : Int) c.2.2.1 ∧ ((∃ l, FE d_5.2.1 l ∧ true = true ∧ list1Pre (((), ()), (d_5.1.1, (d_5.1.2.1.fst, d_5.1.2.1.snd), ()), l, ()) ∧ (∀ c_8
  d, list1R0 (((), ()), (d_5.1.1, (d_5.1.2.1.fst, d_5.1.2.1.snd), ()), l, ()) c_8 d → ∃ l, VW c.1 l ∧ sortedPre (l, ()) ∧ (0 : Int) ≤ ifb (leInt c.2.1 (Int.ofNat
  c.1.length)) c.2.1 (Int.ofNat c.1.length) ∧ ifb (leInt c.2.1 (Int.ofNat c.1.length)) c.2.1 (Int.ofNat c.1.length) ≤ ↑(nearSort l).length ∧ natOf (ifb true (ifb
  (leInt c.2.1 (Int.ofNat c.1.length)) c.2.1 (Int.ofNat c.1.length)) (ifb (leInt (Int.ofNat c.1.length) c.2.1) c.2.1 (Int.ofNat c.1.length))) ≤ (nearSort
  l).length ∧ (List.flatMap En.f (nearSort l)).length = (nearSort l).length.mul (2 : Nat) ∧ ∃ l_5, VW c_8.1 l_5 ∧ ∃ (l_6 : List Near), Wk (AV.vs (List.take
  (((natOf (ifb true (ifb (leInt c.2.1 (Int.ofNat c.1.length)) c.2.1 (Int.ofNat c.1.length)) (ifb (leInt (Int.ofNat c.1.length) c.2.1) c.2.1 (Int.ofNat
  c.1.length)))).sub (0 : Nat)).mul (2 : Nat)) (List.drop (0 : Nat) (List.flatMap En.f (nearSort l)))) ((natOf (ifb true (ifb (leInt c.2.1 (Int.ofNat
  c.1.length)) c.2.1 (Int.ofNat c.1.length)) (ifb (leInt (Int.ofNat c.1.length) c.2.1) c.2.1 (Int.ofNat c.1.length)))).sub (0 : Nat)) ((nearSort l).length.sub (0
  : Nat)) (mxEx none false) none (2 : Nat)) (lst En l_6) ∧ sameMPre (l_5, l_6, ()) ∧ True ∧ (AV.ptr (23 : Nat) (0 : Nat) = AV.ptr (23 : Nat) (0 : Nat) ∧ True) ∧
  True ∧ (AV.int IntKind.i64 (Int.ofNat c.1.length) = AV.int IntKind.i64 (Int.ofNat c.1.length) ∧ AV.int IntKind.i64 (Int.ofNat c.1.length) = AV.int IntKind.i64
  (Int.ofNat c.1.length) ∧ True) ∧ True ∧ True) ∧ True) ∨ False)) ∧ True) ∨ False)) ∧ True) ∨ False)) ∧ (∀ c d, mc3R1 ((l, c_5.2.2.1, c_5.2.2.2.1, (1 : Int),
  ()), ((), (), (), (), ()), (d_4.2.1.1, (d_4.2.1.2.1.fst, d_4.2.1.2.1.snd), ()), (d_4.2.2.1.1, (), ()), (d_4.2.2.2.1.1, (d_4.2.2.2.1.2.1.fst,
  d_4.2.2.2.1.2.1.snd), ()), (d_4.2.2.2.2.1.1, ((0 : Nat), (0 : Nat)), ()), l_2, l_3, [], ()) c d → idxOk (0 : Int) c.2.2.1 ∧ ((∃ l, FE d.2.2.2.2.2.1 l ∧ true =
  true ∧ list1Pre (((), ()), (d.2.1.1, (d.2.1.2.1.fst, d.2.1.2.1.snd), ()), l, ()) ∧ (∀ c_6 d_5, list1R0 (((), ()), (d.2.1.1, (d.2.1.2.1.fst, d.2.1.2.1.snd),
  ()), l, ()) c_6 d_5 → idxOk (3 : Int) c.2.2.1 ∧ (False ∨ true = true ∧ list0Pre (((), ()), (d.2.2.2.2.1.1, (), ()), ()) ∧ (∀ c_7 d_6, list0R0 (((), ()),
  (d.2.2.2.2.1.1, (), ()), ()) c_7 d_6 → ∃ l, VW c_6.1 l ∧ ∃ l_4, VW c_7.1 l_4 ∧ sameMPre (l, l_4, ()) ∧ idxOk (0 : Int) c.2.2.1 ∧ ((∃ l, FE d_5.2.1 l ∧ true =
  true ∧ list1Pre (((), ()), (d_5.1.1, (d_5.1.2.1.fst, d_5.1.2.1.snd), ()), l, ()) ∧ (∀ c_8 d, list1R0 (((), ()), (d_5.1.1, (d_5.1.2.1.fst, d_5.1.2.1.snd), ()),
  l, ()) c_8 d → ∃ l, VW c.1 l ∧ sortedPre (l, ()) ∧ (0 : Int) ≤ ifb (leInt c.2.1 (Int.ofNat c.1.length)) c.2.1 (Int.ofNat c.1.length) ∧ ifb (leInt c.2.1
  (Int.ofNat c.1.length)) c.2.1 (Int.ofNat c.1.length) ≤ ↑(nearSort l).length ∧ natOf (ifb true (ifb (leInt c.2.1 (Int.ofNat c.1.length)) c.2.1 (Int.ofNat
  c.1.length)) (ifb (leInt (Int.ofNat c.1.length) c.2.1) c.2.1 (Int.ofNat c.1.length))) ≤ (nearSort l).length ∧ (List.flatMap En.f (nearSort l)).length =
  (nearSort l).length.mul (2 : Nat) ∧ ∃ l_5, VW c_8.1 l_5 ∧ ∃ (l_6 : List Near), Wk (AV.vs (List.take (((natOf (ifb true (ifb (leInt c.2.1 (Int.ofNat
  c.1.length)) c.2.1 (Int.ofNat c.1.length)) (ifb (leInt (Int.ofNat c.1.length) c.2.1) c.2.1 (Int.ofNat c.1.length)))).sub (0 : Nat)).mul (2 : Nat)) (List.drop
  (0 : Nat) (List.flatMap En.f (nearSort l)))) ((natOf (ifb true (ifb (leInt c.2.1 (Int.ofNat c.1.length)) c.2.1 (Int.ofNat c.1.length)) (ifb (leInt (Int.ofNat
  c.1.length) c.2.1) c.2.1 (Int.ofNat c.1.length)))).sub (0 : Nat)) ((nearSort l).length.sub (0 : Nat)) (mxEx none false) none (2 : Nat)) (lst En l_6) ∧ sameMPre
  (l_5, l_6, ()) ∧ True ∧ (AV.ptr (23 : Nat) (0 : Nat) = AV.ptr (23 : Nat) (0 : Nat) ∧ True) ∧ True ∧ (AV.int IntKind.i64 (Int.ofNat c.1.length) = AV.int
  IntKind.i64 (Int.ofNat c.1.length) ∧ AV.int IntKind.i64 (Int.ofNat c.1.length) = AV.int IntKind.i64 (Int.ofNat c.1.length) ∧ True) ∧ True ∧ True) ∧ True) ∨
  False)) ∧ True)) ∧ True) ∨ False)) ∧ True) ∨ (∃ l, VW c_5.1 l ∧ False) ∨ (∃ l, VW c_5.1 l ∧ False) ∨ (∃ l, VW c_5.1 l ∧ False) ∨ ∃ l, VW c_5.1 l ∧ False))) ∧
  True) ∨ (∃ l_1, VW l l_1 ∧ False) ∨ ∃ l_1, VW l l_1 ∧ False)) ∧ True) ∧ True) ∧ True) ∧ True)) := by kernel_rfl

theorem rankMergesHolds (l : List Near) (c : Int) (n : Int) (hl : Sh.plOk (.slice (.fcons (.int .i64) (.fcons (.int .i64) .fnil))) l) (hc : Sh.plOk (.int .i64) c) (hn : Sh.plOk (.int .i64) n) : callW Try.prog (runW Try.prog (KLS [(10, lives04K), (11, pickK), (12, newYK), (14, addK), (16, tlistK), (18, sortedK), (17, sameMK)] [(4, [(15, maC), (22, mcC)])] 30) 300) 4 (rankMergesT.cells id (l, (c, (n, ())))) (stB false) (fun v _ => yesQ v) := by
  refine (rankMergesFn l c n).mpr ?_
  obtain ⟨n1, n2⟩ := wf_i64 hn
  obtain ⟨c1, c2⟩ := wf_i64 hc
  refine ⟨trivial, ?_⟩
  rw [ifp_lt]
  split
  · trivial
  · rename_i hlen
    have hl : l.length ≤ 150 := by simp only [Int.ofNat_eq_natCast] at hlen; omega
    obtain ⟨p1, p2⟩ := pick_range (n := n) (m := 150) (by omega)
    have ew : wrapF .i64 (Int.add (Int.ofNat l.length) 1) = (l.length : Int) + 1 := by
      show wrapF .i64 (Int.add (l.length : Int) 1) = _
      rw [wadd (by omega) (by omega)]
    simp only [ew]
    obtain ⟨u1, u2⟩ := pick_range (n := c) (m := (l.length : Int) + 1) (by omega)
    generalize hK : pickV n 150 = K at p1 p2 ⊢
    generalize hU : pickV c ((l.length : Int) + 1) = U at u1 u2 ⊢
    obtain ⟨u, rfl⟩ := Int.eq_ofNat_of_zero_le u1
    have hmin := min_is p1 l
    have htl := topL_len K l
    have hsl := nearSort_len l
    have hnil := (maR_nil p1 0).1
    refine ⟨⟨n1, n2, by decide⟩, ⟨c1, c2, by omega⟩, (by first | exact trivial | exact rfl), ⟨p1, by omega⟩, fun a1 d1 hr1 => ?_, trivial⟩
    obtain ⟨⟨k1, _⟩, _⟩ := d1
    obtain rfl : K = k1 := Eq.symm hr1
    refine ⟨by decide, (by first | exact trivial | exact rfl), ⟨p1, by omega⟩, fun a2 d2 hr2 => ?_, trivial⟩
    obtain ⟨⟨k2, _⟩, _⟩ := d2
    obtain rfl : K = k2 := Eq.symm hr2
    refine ⟨by decide, (by first | exact trivial | exact rfl), ⟨p1, by omega⟩, fun a3 d3 hr3 => ?_, trivial⟩
    obtain ⟨⟨k3, _⟩, _⟩ := d3
    obtain rfl : K = k3 := Eq.symm hr3
    refine ⟨by decide, (by first | exact trivial | exact rfl), ⟨p1, by omega⟩, fun a4 d4 hr4 => ?_, trivial⟩
    obtain ⟨⟨k4, _⟩, _⟩ := d4
    obtain rfl : K = k4 := Eq.symm hr4
    refine ⟨by decide, maOk, trivial, trivial, Or.inr (Or.inl ⟨l, Wk.refl _, (by first | exact trivial | exact rfl), ⟨0, rfl, Nat.zero_le _, hl, rfl, u1, p1, by show K ≤ 150; omega, rfl, rfl, rfl, rfl, rfl, rfl, rfl, maR_nil p1 _⟩, fun cc dd hr => ?_, fun cc dd hr => ?_, fun cc dd hr => ?_, fun cc dd hr => ?_, trivial⟩)⟩
    · obtain ⟨l2, u2, y, s2, _⟩ := cc
      obtain ⟨_, ⟨x1, g1, _⟩, ⟨x2, g2, _⟩, ⟨x3, g3, _⟩, ⟨x4, _⟩, m1, m2, m3, _⟩ := dd
      obtain ⟨q1, q2, q3, q4, q5, q6, q7, q8, _, _, _, _, hg1, hg2, hg3, hM⟩ := hr
      obtain rfl : l = l2 := q1.symm
      obtain rfl : (u : Int) = u2 := q2.symm
      obtain rfl : K = y := q3.symm
      obtain rfl : s2 = 4 := q4
      obtain rfl : K = x1 := q5.symm
      obtain rfl : K = x2 := q6.symm
      obtain rfl : K = x3 := q7.symm
      obtain rfl : K = x4 := q8.symm
      obtain rfl : g1 = (m1.length, m1.length) := hg1
      obtain rfl : g2 = (m2.length, m2.length) := hg2
      obtain rfl : g3 = (m3.length, m3.length) := hg3
      refine ⟨mcOk, Or.inl (⟨trivial, trivial, Or.inl ⟨l, Wk.refl _, m1, rfl, m2, rfl, m3, rfl, (by first | exact trivial | exact rfl), ⟨rfl, hl, p1, by show K ≤ 150; omega, rfl, rfl, rfl, rfl, rfl, rfl, rfl, rfl, u, hM, hnil⟩, fun c5 d5 hr5 => ?_, fun c5 d5 hr5 => ?_, trivial⟩⟩)⟩
      · obtain ⟨l3, y3, s3, _⟩ := c5
        obtain ⟨_, ⟨x1, g1, _⟩, ⟨x2, g2, _⟩, ⟨x3, g3, _⟩, ⟨x4, g4, _⟩, n1, n2, n3, n4, _⟩ := d5
        obtain ⟨q1, q2, q3, q4, q5, _, _, _, hg1, hg4, hT1, hT4⟩ := hr5
        obtain rfl : l = l3 := q1.symm
        obtain rfl : K = y3 := q2.symm
        obtain rfl : s3 = 4 := q3
        obtain rfl : K = x1 := q4.symm
        obtain rfl : K = x4 := q5.symm
        obtain rfl : g1 = (n1.length, n1.length) := hg1
        obtain rfl : g4 = (n4.length, n4.length) := hg4
        refine ⟨⟨by decide, by show (0 : Int) < ((4 : Nat) : Int); decide⟩, Or.inl ⟨n1, rfl, (by first | exact trivial | exact rfl), ⟨rfl, by have := hT1.len; have := hT1.l; show _ ≤ 1000000; omega⟩, fun c6 d6 hr6 => ?_, trivial⟩⟩
        obtain ⟨o6, _⟩ := c6
        obtain ⟨⟨kk6, gg6, _⟩, mm6, _⟩ := d6
        obtain ⟨ho6, hk6, hg6, hm6⟩ := hr6
        obtain rfl : K = kk6 := hk6.symm
        obtain rfl : gg6 = (n1.length, n1.length) := hg6
        obtain rfl : n1 = mm6 := hm6.symm
        replace ho6 : o6 = topL K l := ho6.trans hT1.list
        refine ⟨⟨by decide, by show (3 : Int) < ((4 : Nat) : Int); decide⟩, Or.inl ⟨n4, rfl, (by first | exact trivial | exact rfl), ⟨rfl, by have := hT4.len; have := hT4.l; show _ ≤ 1000000; omega⟩, fun c7 d7 hr7 => ?_, trivial⟩⟩
        obtain ⟨o7, _⟩ := c7
        obtain ⟨⟨kk7, gg7, _⟩, mm7, _⟩ := d7
        obtain ⟨ho7, hk7, hg7, hm7⟩ := hr7
        obtain rfl : K = kk7 := hk7.symm
        obtain rfl : gg7 = (n4.length, n4.length) := hg7
        obtain rfl : n4 = mm7 := hm7.symm
        replace ho7 : o7 = topL K l := ho7.trans hT4.list
        refine ⟨o6, Wk.refl _, o7, Wk.refl _, ⟨by show o6.length ≤ 1000000; rw [ho6]; omega, by rw [ho6, ho7]; simp⟩, ?_⟩
        refine ⟨⟨by decide, by show (0 : Int) < ((4 : Nat) : Int); decide⟩, Or.inl ⟨n1, rfl, (by first | exact trivial | exact rfl), ⟨rfl, by have := hT1.len; have := hT1.l; show _ ≤ 1000000; omega⟩, fun c8 d8 hr8 => ?_, trivial⟩⟩
        obtain ⟨o8, _⟩ := c8
        obtain ⟨⟨kk8, gg8, _⟩, mm8, _⟩ := d8
        obtain ⟨ho8, hk8, hg8, hm8⟩ := hr8
        obtain rfl : K = kk8 := hk8.symm
        obtain rfl : gg8 = (n1.length, n1.length) := hg8
        obtain rfl : n1 = mm8 := hm8.symm
        replace ho8 : o8 = topL K l := ho8.trans hT1.list
        refine ⟨l, Wk.refl _, by show l.length ≤ 1000000; omega, ?_⟩
        simp only [hmin]
        refine ⟨Int.natCast_nonneg _, by show ((topL K l).length : Int) ≤ ((nearSort l).length : Int); omega, by show (topL K l).length ≤ (nearSort l).length; omega, Enc.flen En _, o8, Wk.refl _, topL K l, wk_vs ⟨?_, rfl, rfl⟩, ⟨by show o8.length ≤ 1000000; rw [ho8]; omega, by rw [ho8]; simp⟩, trivial, ⟨(by first | exact trivial | exact rfl), trivial⟩, trivial, ⟨(by first | exact trivial | exact rfl), (by first | exact trivial | exact rfl), trivial⟩, trivial, trivial⟩
        show List.take ((topL K l).length * 2) (List.drop 0 ((nearSort l).flatMap En.f)) = (topL K l).flatMap En.f
        rw [List.drop_zero, near_take, top_take]
      · obtain ⟨l3, y3, s3, _⟩ := c5
        obtain ⟨_, ⟨x1, g1, _⟩, ⟨x2, g2, _⟩, ⟨x3, g3, _⟩, ⟨x4, _⟩, n1, n2, n3, _⟩ := d5
        obtain ⟨q1, q2, q3, q4, q5, _, _, _, hg1, hT1, hT4⟩ := hr5
        obtain rfl : l = l3 := q1.symm
        obtain rfl : K = y3 := q2.symm
        obtain rfl : s3 = 4 := q3
        obtain rfl : K = x1 := q4.symm
        obtain rfl : K = x4 := q5.symm
        obtain rfl : g1 = (n1.length, n1.length) := hg1
        refine ⟨⟨by decide, by show (0 : Int) < ((4 : Nat) : Int); decide⟩, Or.inl ⟨n1, rfl, (by first | exact trivial | exact rfl), ⟨rfl, by have := hT1.len; have := hT1.l; show _ ≤ 1000000; omega⟩, fun c6 d6 hr6 => ?_, trivial⟩⟩
        obtain ⟨o6, _⟩ := c6
        obtain ⟨⟨kk6, gg6, _⟩, mm6, _⟩ := d6
        obtain ⟨ho6, hk6, hg6, hm6⟩ := hr6
        obtain rfl : K = kk6 := hk6.symm
        obtain rfl : gg6 = (n1.length, n1.length) := hg6
        obtain rfl : n1 = mm6 := hm6.symm
        replace ho6 : o6 = topL K l := ho6.trans hT1.list
        refine ⟨⟨by decide, by show (3 : Int) < ((4 : Nat) : Int); decide⟩, Or.inr ⟨(by first | exact trivial | exact rfl), trivial, fun c7 d7 hr7 => ?_, trivial⟩⟩
        obtain ⟨o7, _⟩ := c7
        obtain ⟨⟨kk7, _⟩, _⟩ := d7
        obtain ⟨ho7, hk7⟩ := hr7
        obtain rfl : K = kk7 := hk7.symm
        replace ho7 : o7 = topL K l := ho7.trans hT4.nilL.symm
        refine ⟨o6, Wk.refl _, o7, Wk.refl _, ⟨by show o6.length ≤ 1000000; rw [ho6]; omega, by rw [ho6, ho7]; simp⟩, ?_⟩
        refine ⟨⟨by decide, by show (0 : Int) < ((4 : Nat) : Int); decide⟩, Or.inl ⟨n1, rfl, (by first | exact trivial | exact rfl), ⟨rfl, by have := hT1.len; have := hT1.l; show _ ≤ 1000000; omega⟩, fun c8 d8 hr8 => ?_, trivial⟩⟩
        obtain ⟨o8, _⟩ := c8
        obtain ⟨⟨kk8, gg8, _⟩, mm8, _⟩ := d8
        obtain ⟨ho8, hk8, hg8, hm8⟩ := hr8
        obtain rfl : K = kk8 := hk8.symm
        obtain rfl : gg8 = (n1.length, n1.length) := hg8
        obtain rfl : n1 = mm8 := hm8.symm
        replace ho8 : o8 = topL K l := ho8.trans hT1.list
        refine ⟨l, Wk.refl _, by show l.length ≤ 1000000; omega, ?_⟩
        simp only [hmin]
        refine ⟨Int.natCast_nonneg _, by show ((topL K l).length : Int) ≤ ((nearSort l).length : Int); omega, by show (topL K l).length ≤ (nearSort l).length; omega, Enc.flen En _, o8, Wk.refl _, topL K l, wk_vs ⟨?_, rfl, rfl⟩, ⟨by show o8.length ≤ 1000000; rw [ho8]; omega, by rw [ho8]; simp⟩, trivial, ⟨(by first | exact trivial | exact rfl), trivial⟩, trivial, ⟨(by first | exact trivial | exact rfl), (by first | exact trivial | exact rfl), trivial⟩, trivial, trivial⟩
        show List.take ((topL K l).length * 2) (List.drop 0 ((nearSort l).flatMap En.f)) = (topL K l).flatMap En.f
        rw [List.drop_zero, near_take, top_take]
    · obtain ⟨l2, u2, y, s2, _⟩ := cc
      obtain ⟨_, ⟨x1, _⟩, ⟨x2, _⟩, ⟨x3, _⟩, ⟨x4, _⟩, _⟩ := dd
      obtain ⟨q1, q2, q3, q4, q5, q6, q7, q8, _, _, _, _, hM⟩ := hr
      obtain rfl : l = l2 := q1.symm
      obtain rfl : (u : Int) = u2 := q2.symm
      obtain rfl : K = y := q3.symm
      obtain rfl : s2 = 4 := q4
      obtain rfl : K = x1 := q5.symm
      obtain rfl : K = x2 := q6.symm
      obtain rfl : K = x3 := q7.symm
      obtain rfl : K = x4 := q8.symm
      refine ⟨mcOk, Or.inr (Or.inl (⟨trivial, trivial, Or.inl ⟨l, Wk.refl _, (by first | exact trivial | exact rfl), ⟨rfl, hl, p1, by show K ≤ 150; omega, rfl, rfl, rfl, rfl, rfl, u, hM, hnil⟩, fun c5 d5 hr5 => ?_, fun c5 d5 hr5 => ?_, trivial⟩⟩))⟩
      · obtain ⟨l3, y3, s3, _⟩ := c5
        obtain ⟨_, ⟨x1, _⟩, ⟨x2, _⟩, ⟨x3, _⟩, ⟨x4, g4, _⟩, n4, _⟩ := d5
        obtain ⟨q1, q2, q3, q4, q5, _, _, _, hg4, hT1, hT4⟩ := hr5
        obtain rfl : l = l3 := q1.symm
        obtain rfl : K = y3 := q2.symm
        obtain rfl : s3 = 4 := q3
        obtain rfl : K = x1 := q4.symm
        obtain rfl : K = x4 := q5.symm
        obtain rfl : g4 = (n4.length, n4.length) := hg4
        refine ⟨⟨by decide, by show (0 : Int) < ((4 : Nat) : Int); decide⟩, Or.inr ⟨(by first | exact trivial | exact rfl), trivial, fun c6 d6 hr6 => ?_, trivial⟩⟩
        obtain ⟨o6, _⟩ := c6
        obtain ⟨⟨kk6, _⟩, _⟩ := d6
        obtain ⟨ho6, hk6⟩ := hr6
        obtain rfl : K = kk6 := hk6.symm
        replace ho6 : o6 = topL K l := ho6.trans hT1.nilL.symm
        refine ⟨⟨by decide, by show (3 : Int) < ((4 : Nat) : Int); decide⟩, Or.inl ⟨n4, rfl, (by first | exact trivial | exact rfl), ⟨rfl, by have := hT4.len; have := hT4.l; show _ ≤ 1000000; omega⟩, fun c7 d7 hr7 => ?_, trivial⟩⟩
        obtain ⟨o7, _⟩ := c7
        obtain ⟨⟨kk7, gg7, _⟩, mm7, _⟩ := d7
        obtain ⟨ho7, hk7, hg7, hm7⟩ := hr7
        obtain rfl : K = kk7 := hk7.symm
        obtain rfl : gg7 = (n4.length, n4.length) := hg7
        obtain rfl : n4 = mm7 := hm7.symm
        replace ho7 : o7 = topL K l := ho7.trans hT4.list
        refine ⟨o6, Wk.refl _, o7, Wk.refl _, ⟨by show o6.length ≤ 1000000; rw [ho6]; omega, by rw [ho6, ho7]; simp⟩, ?_⟩
        refine ⟨⟨by decide, by show (0 : Int) < ((4 : Nat) : Int); decide⟩, Or.inr ⟨(by first | exact trivial | exact rfl), trivial, fun c8 d8 hr8 => ?_, trivial⟩⟩
        obtain ⟨o8, _⟩ := c8
        obtain ⟨⟨kk8, _⟩, _⟩ := d8
        obtain ⟨ho8, hk8⟩ := hr8
        obtain rfl : K = kk8 := hk8.symm
        replace ho8 : o8 = topL K l := ho8.trans hT1.nilL.symm
        refine ⟨l, Wk.refl _, by show l.length ≤ 1000000; omega, ?_⟩
        simp only [hmin]
        refine ⟨Int.natCast_nonneg _, by show ((topL K l).length : Int) ≤ ((nearSort l).length : Int); omega, by show (topL K l).length ≤ (nearSort l).length; omega, Enc.flen En _, o8, Wk.refl _, topL K l, wk_vs ⟨?_, rfl, rfl⟩, ⟨by show o8.length ≤ 1000000; rw [ho8]; omega, by rw [ho8]; simp⟩, trivial, ⟨(by first | exact trivial | exact rfl), trivial⟩, trivial, ⟨(by first | exact trivial | exact rfl), (by first | exact trivial | exact rfl), trivial⟩, trivial, trivial⟩
        show List.take ((topL K l).length * 2) (List.drop 0 ((nearSort l).flatMap En.f)) = (topL K l).flatMap En.f
        rw [List.drop_zero, near_take, top_take]
      · obtain ⟨l3, y3, s3, _⟩ := c5
        obtain ⟨_, ⟨x1, _⟩, ⟨x2, _⟩, ⟨x3, _⟩, ⟨x4, _⟩, _⟩ := d5
        obtain ⟨q1, q2, q3, q4, q5, _, _, _, hT1, hT4⟩ := hr5
        obtain rfl : l = l3 := q1.symm
        obtain rfl : K = y3 := q2.symm
        obtain rfl : s3 = 4 := q3
        obtain rfl : K = x1 := q4.symm
        obtain rfl : K = x4 := q5.symm
        refine ⟨⟨by decide, by show (0 : Int) < ((4 : Nat) : Int); decide⟩, Or.inr ⟨(by first | exact trivial | exact rfl), trivial, fun c6 d6 hr6 => ?_, trivial⟩⟩
        obtain ⟨o6, _⟩ := c6
        obtain ⟨⟨kk6, _⟩, _⟩ := d6
        obtain ⟨ho6, hk6⟩ := hr6
        obtain rfl : K = kk6 := hk6.symm
        replace ho6 : o6 = topL K l := ho6.trans hT1.nilL.symm
        refine ⟨⟨by decide, by show (3 : Int) < ((4 : Nat) : Int); decide⟩, Or.inr ⟨(by first | exact trivial | exact rfl), trivial, fun c7 d7 hr7 => ?_, trivial⟩⟩
        obtain ⟨o7, _⟩ := c7
        obtain ⟨⟨kk7, _⟩, _⟩ := d7
        obtain ⟨ho7, hk7⟩ := hr7
        obtain rfl : K = kk7 := hk7.symm
        replace ho7 : o7 = topL K l := ho7.trans hT4.nilL.symm
        refine ⟨o6, Wk.refl _, o7, Wk.refl _, ⟨by show o6.length ≤ 1000000; rw [ho6]; omega, by rw [ho6, ho7]; simp⟩, ?_⟩
        refine ⟨⟨by decide, by show (0 : Int) < ((4 : Nat) : Int); decide⟩, Or.inr ⟨(by first | exact trivial | exact rfl), trivial, fun c8 d8 hr8 => ?_, trivial⟩⟩
        obtain ⟨o8, _⟩ := c8
        obtain ⟨⟨kk8, _⟩, _⟩ := d8
        obtain ⟨ho8, hk8⟩ := hr8
        obtain rfl : K = kk8 := hk8.symm
        replace ho8 : o8 = topL K l := ho8.trans hT1.nilL.symm
        refine ⟨l, Wk.refl _, by show l.length ≤ 1000000; omega, ?_⟩
        simp only [hmin]
        refine ⟨Int.natCast_nonneg _, by show ((topL K l).length : Int) ≤ ((nearSort l).length : Int); omega, by show (topL K l).length ≤ (nearSort l).length; omega, Enc.flen En _, o8, Wk.refl _, topL K l, wk_vs ⟨?_, rfl, rfl⟩, ⟨by show o8.length ≤ 1000000; rw [ho8]; omega, by rw [ho8]; simp⟩, trivial, ⟨(by first | exact trivial | exact rfl), trivial⟩, trivial, ⟨(by first | exact trivial | exact rfl), (by first | exact trivial | exact rfl), trivial⟩, trivial, trivial⟩
        show List.take ((topL K l).length * 2) (List.drop 0 ((nearSort l).flatMap En.f)) = (topL K l).flatMap En.f
        rw [List.drop_zero, near_take, top_take]
    · obtain ⟨l2, u2, y, s2, _⟩ := cc
      obtain ⟨_, ⟨x1, g1, _⟩, ⟨x2, g2, _⟩, ⟨x3, _⟩, ⟨x4, _⟩, m1, m2, _⟩ := dd
      obtain ⟨q1, q2, q3, q4, q5, q6, q7, q8, _, _, _, _, hg1, hg2, hM⟩ := hr
      obtain rfl : l = l2 := q1.symm
      obtain rfl : (u : Int) = u2 := q2.symm
      obtain rfl : K = y := q3.symm
      obtain rfl : s2 = 4 := q4
      obtain rfl : K = x1 := q5.symm
      obtain rfl : K = x2 := q6.symm
      obtain rfl : K = x3 := q7.symm
      obtain rfl : K = x4 := q8.symm
      obtain rfl : g1 = (m1.length, m1.length) := hg1
      obtain rfl : g2 = (m2.length, m2.length) := hg2
      refine ⟨mcOk, Or.inr (Or.inr (Or.inl (⟨trivial, trivial, Or.inl ⟨l, Wk.refl _, m1, rfl, m2, rfl, (by first | exact trivial | exact rfl), ⟨rfl, hl, p1, by show K ≤ 150; omega, rfl, rfl, rfl, rfl, rfl, rfl, rfl, u, hM, hnil⟩, fun c5 d5 hr5 => ?_, fun c5 d5 hr5 => ?_, trivial⟩⟩)))⟩
      · obtain ⟨l3, y3, s3, _⟩ := c5
        obtain ⟨_, ⟨x1, g1, _⟩, ⟨x2, g2, _⟩, ⟨x3, _⟩, ⟨x4, g4, _⟩, n1, n2, n4, _⟩ := d5
        obtain ⟨q1, q2, q3, q4, q5, _, _, _, hg1, hg4, hT1, hT4⟩ := hr5
        obtain rfl : l = l3 := q1.symm
        obtain rfl : K = y3 := q2.symm
        obtain rfl : s3 = 4 := q3
        obtain rfl : K = x1 := q4.symm
        obtain rfl : K = x4 := q5.symm
        obtain rfl : g1 = (n1.length, n1.length) := hg1
        obtain rfl : g4 = (n4.length, n4.length) := hg4
        refine ⟨⟨by decide, by show (0 : Int) < ((4 : Nat) : Int); decide⟩, Or.inl ⟨n1, rfl, (by first | exact trivial | exact rfl), ⟨rfl, by have := hT1.len; have := hT1.l; show _ ≤ 1000000; omega⟩, fun c6 d6 hr6 => ?_, trivial⟩⟩
        obtain ⟨o6, _⟩ := c6
        obtain ⟨⟨kk6, gg6, _⟩, mm6, _⟩ := d6
        obtain ⟨ho6, hk6, hg6, hm6⟩ := hr6
        obtain rfl : K = kk6 := hk6.symm
        obtain rfl : gg6 = (n1.length, n1.length) := hg6
        obtain rfl : n1 = mm6 := hm6.symm
        replace ho6 : o6 = topL K l := ho6.trans hT1.list
        refine ⟨⟨by decide, by show (3 : Int) < ((4 : Nat) : Int); decide⟩, Or.inl ⟨n4, rfl, (by first | exact trivial | exact rfl), ⟨rfl, by have := hT4.len; have := hT4.l; show _ ≤ 1000000; omega⟩, fun c7 d7 hr7 => ?_, trivial⟩⟩
        obtain ⟨o7, _⟩ := c7
        obtain ⟨⟨kk7, gg7, _⟩, mm7, _⟩ := d7
        obtain ⟨ho7, hk7, hg7, hm7⟩ := hr7
        obtain rfl : K = kk7 := hk7.symm
        obtain rfl : gg7 = (n4.length, n4.length) := hg7
        obtain rfl : n4 = mm7 := hm7.symm
        replace ho7 : o7 = topL K l := ho7.trans hT4.list
        refine ⟨o6, Wk.refl _, o7, Wk.refl _, ⟨by show o6.length ≤ 1000000; rw [ho6]; omega, by rw [ho6, ho7]; simp⟩, ?_⟩
        refine ⟨⟨by decide, by show (0 : Int) < ((4 : Nat) : Int); decide⟩, Or.inl ⟨n1, rfl, (by first | exact trivial | exact rfl), ⟨rfl, by have := hT1.len; have := hT1.l; show _ ≤ 1000000; omega⟩, fun c8 d8 hr8 => ?_, trivial⟩⟩
        obtain ⟨o8, _⟩ := c8
        obtain ⟨⟨kk8, gg8, _⟩, mm8, _⟩ := d8
        obtain ⟨ho8, hk8, hg8, hm8⟩ := hr8
        obtain rfl : K = kk8 := hk8.symm
        obtain rfl : gg8 = (n1.length, n1.length) := hg8
        obtain rfl : n1 = mm8 := hm8.symm
        replace ho8 : o8 = topL K l := ho8.trans hT1.list
        refine ⟨l, Wk.refl _, by show l.length ≤ 1000000; omega, ?_⟩
        simp only [hmin]
        refine ⟨Int.natCast_nonneg _, by show ((topL K l).length : Int) ≤ ((nearSort l).length : Int); omega, by show (topL K l).length ≤ (nearSort l).length; omega, Enc.flen En _, o8, Wk.refl _, topL K l, wk_vs ⟨?_, rfl, rfl⟩, ⟨by show o8.length ≤ 1000000; rw [ho8]; omega, by rw [ho8]; simp⟩, trivial, ⟨(by first | exact trivial | exact rfl), trivial⟩, trivial, ⟨(by first | exact trivial | exact rfl), (by first | exact trivial | exact rfl), trivial⟩, trivial, trivial⟩
        show List.take ((topL K l).length * 2) (List.drop 0 ((nearSort l).flatMap En.f)) = (topL K l).flatMap En.f
        rw [List.drop_zero, near_take, top_take]
      · obtain ⟨l3, y3, s3, _⟩ := c5
        obtain ⟨_, ⟨x1, g1, _⟩, ⟨x2, g2, _⟩, ⟨x3, _⟩, ⟨x4, _⟩, n1, n2, _⟩ := d5
        obtain ⟨q1, q2, q3, q4, q5, _, _, _, hg1, hT1, hT4⟩ := hr5
        obtain rfl : l = l3 := q1.symm
        obtain rfl : K = y3 := q2.symm
        obtain rfl : s3 = 4 := q3
        obtain rfl : K = x1 := q4.symm
        obtain rfl : K = x4 := q5.symm
        obtain rfl : g1 = (n1.length, n1.length) := hg1
        refine ⟨⟨by decide, by show (0 : Int) < ((4 : Nat) : Int); decide⟩, Or.inl ⟨n1, rfl, (by first | exact trivial | exact rfl), ⟨rfl, by have := hT1.len; have := hT1.l; show _ ≤ 1000000; omega⟩, fun c6 d6 hr6 => ?_, trivial⟩⟩
        obtain ⟨o6, _⟩ := c6
        obtain ⟨⟨kk6, gg6, _⟩, mm6, _⟩ := d6
        obtain ⟨ho6, hk6, hg6, hm6⟩ := hr6
        obtain rfl : K = kk6 := hk6.symm
        obtain rfl : gg6 = (n1.length, n1.length) := hg6
        obtain rfl : n1 = mm6 := hm6.symm
        replace ho6 : o6 = topL K l := ho6.trans hT1.list
        refine ⟨⟨by decide, by show (3 : Int) < ((4 : Nat) : Int); decide⟩, Or.inr ⟨(by first | exact trivial | exact rfl), trivial, fun c7 d7 hr7 => ?_, trivial⟩⟩
        obtain ⟨o7, _⟩ := c7
        obtain ⟨⟨kk7, _⟩, _⟩ := d7
        obtain ⟨ho7, hk7⟩ := hr7
        obtain rfl : K = kk7 := hk7.symm
        replace ho7 : o7 = topL K l := ho7.trans hT4.nilL.symm
        refine ⟨o6, Wk.refl _, o7, Wk.refl _, ⟨by show o6.length ≤ 1000000; rw [ho6]; omega, by rw [ho6, ho7]; simp⟩, ?_⟩
        refine ⟨⟨by decide, by show (0 : Int) < ((4 : Nat) : Int); decide⟩, Or.inl ⟨n1, rfl, (by first | exact trivial | exact rfl), ⟨rfl, by have := hT1.len; have := hT1.l; show _ ≤ 1000000; omega⟩, fun c8 d8 hr8 => ?_, trivial⟩⟩
        obtain ⟨o8, _⟩ := c8
        obtain ⟨⟨kk8, gg8, _⟩, mm8, _⟩ := d8
        obtain ⟨ho8, hk8, hg8, hm8⟩ := hr8
        obtain rfl : K = kk8 := hk8.symm
        obtain rfl : gg8 = (n1.length, n1.length) := hg8
        obtain rfl : n1 = mm8 := hm8.symm
        replace ho8 : o8 = topL K l := ho8.trans hT1.list
        refine ⟨l, Wk.refl _, by show l.length ≤ 1000000; omega, ?_⟩
        simp only [hmin]
        refine ⟨Int.natCast_nonneg _, by show ((topL K l).length : Int) ≤ ((nearSort l).length : Int); omega, by show (topL K l).length ≤ (nearSort l).length; omega, Enc.flen En _, o8, Wk.refl _, topL K l, wk_vs ⟨?_, rfl, rfl⟩, ⟨by show o8.length ≤ 1000000; rw [ho8]; omega, by rw [ho8]; simp⟩, trivial, ⟨(by first | exact trivial | exact rfl), trivial⟩, trivial, ⟨(by first | exact trivial | exact rfl), (by first | exact trivial | exact rfl), trivial⟩, trivial, trivial⟩
        show List.take ((topL K l).length * 2) (List.drop 0 ((nearSort l).flatMap En.f)) = (topL K l).flatMap En.f
        rw [List.drop_zero, near_take, top_take]
    · obtain ⟨l2, u2, y, s2, _⟩ := cc
      obtain ⟨_, ⟨x1, g1, _⟩, ⟨x2, _⟩, ⟨x3, g3, _⟩, ⟨x4, _⟩, m1, m3, _⟩ := dd
      obtain ⟨q1, q2, q3, q4, q5, q6, q7, q8, _, _, _, _, hg1, hg3, hM⟩ := hr
      obtain rfl : l = l2 := q1.symm
      obtain rfl : (u : Int) = u2 := q2.symm
      obtain rfl : K = y := q3.symm
      obtain rfl : s2 = 4 := q4
      obtain rfl : K = x1 := q5.symm
      obtain rfl : K = x2 := q6.symm
      obtain rfl : K = x3 := q7.symm
      obtain rfl : K = x4 := q8.symm
      obtain rfl : g1 = (m1.length, m1.length) := hg1
      obtain rfl : g3 = (m3.length, m3.length) := hg3
      refine ⟨mcOk, Or.inr (Or.inr (Or.inr (⟨trivial, trivial, Or.inl ⟨l, Wk.refl _, m1, rfl, m3, rfl, (by first | exact trivial | exact rfl), ⟨rfl, hl, p1, by show K ≤ 150; omega, rfl, rfl, rfl, rfl, rfl, rfl, rfl, u, hM, hnil⟩, fun c5 d5 hr5 => ?_, fun c5 d5 hr5 => ?_, trivial⟩⟩)))⟩
      · obtain ⟨l3, y3, s3, _⟩ := c5
        obtain ⟨_, ⟨x1, g1, _⟩, ⟨x2, _⟩, ⟨x3, g3, _⟩, ⟨x4, g4, _⟩, n1, n3, n4, _⟩ := d5
        obtain ⟨q1, q2, q3, q4, q5, _, _, _, hg1, hg4, hT1, hT4⟩ := hr5
        obtain rfl : l = l3 := q1.symm
        obtain rfl : K = y3 := q2.symm
        obtain rfl : s3 = 4 := q3
        obtain rfl : K = x1 := q4.symm
        obtain rfl : K = x4 := q5.symm
        obtain rfl : g1 = (n1.length, n1.length) := hg1
        obtain rfl : g4 = (n4.length, n4.length) := hg4
        refine ⟨⟨by decide, by show (0 : Int) < ((4 : Nat) : Int); decide⟩, Or.inl ⟨n1, rfl, (by first | exact trivial | exact rfl), ⟨rfl, by have := hT1.len; have := hT1.l; show _ ≤ 1000000; omega⟩, fun c6 d6 hr6 => ?_, trivial⟩⟩
        obtain ⟨o6, _⟩ := c6
        obtain ⟨⟨kk6, gg6, _⟩, mm6, _⟩ := d6
        obtain ⟨ho6, hk6, hg6, hm6⟩ := hr6
        obtain rfl : K = kk6 := hk6.symm
        obtain rfl : gg6 = (n1.length, n1.length) := hg6
        obtain rfl : n1 = mm6 := hm6.symm
        replace ho6 : o6 = topL K l := ho6.trans hT1.list
        refine ⟨⟨by decide, by show (3 : Int) < ((4 : Nat) : Int); decide⟩, Or.inl ⟨n4, rfl, (by first | exact trivial | exact rfl), ⟨rfl, by have := hT4.len; have := hT4.l; show _ ≤ 1000000; omega⟩, fun c7 d7 hr7 => ?_, trivial⟩⟩
        obtain ⟨o7, _⟩ := c7
        obtain ⟨⟨kk7, gg7, _⟩, mm7, _⟩ := d7
        obtain ⟨ho7, hk7, hg7, hm7⟩ := hr7
        obtain rfl : K = kk7 := hk7.symm
        obtain rfl : gg7 = (n4.length, n4.length) := hg7
        obtain rfl : n4 = mm7 := hm7.symm
        replace ho7 : o7 = topL K l := ho7.trans hT4.list
        refine ⟨o6, Wk.refl _, o7, Wk.refl _, ⟨by show o6.length ≤ 1000000; rw [ho6]; omega, by rw [ho6, ho7]; simp⟩, ?_⟩
        refine ⟨⟨by decide, by show (0 : Int) < ((4 : Nat) : Int); decide⟩, Or.inl ⟨n1, rfl, (by first | exact trivial | exact rfl), ⟨rfl, by have := hT1.len; have := hT1.l; show _ ≤ 1000000; omega⟩, fun c8 d8 hr8 => ?_, trivial⟩⟩
        obtain ⟨o8, _⟩ := c8
        obtain ⟨⟨kk8, gg8, _⟩, mm8, _⟩ := d8
        obtain ⟨ho8, hk8, hg8, hm8⟩ := hr8
        obtain rfl : K = kk8 := hk8.symm
        obtain rfl : gg8 = (n1.length, n1.length) := hg8
        obtain rfl : n1 = mm8 := hm8.symm
        replace ho8 : o8 = topL K l := ho8.trans hT1.list
        refine ⟨l, Wk.refl _, by show l.length ≤ 1000000; omega, ?_⟩
        simp only [hmin]
        refine ⟨Int.natCast_nonneg _, by show ((topL K l).length : Int) ≤ ((nearSort l).length : Int); omega, by show (topL K l).length ≤ (nearSort l).length; omega, Enc.flen En _, o8, Wk.refl _, topL K l, wk_vs ⟨?_, rfl, rfl⟩, ⟨by show o8.length ≤ 1000000; rw [ho8]; omega, by rw [ho8]; simp⟩, trivial, ⟨(by first | exact trivial | exact rfl), trivial⟩, trivial, ⟨(by first | exact trivial | exact rfl), (by first | exact trivial | exact rfl), trivial⟩, trivial, trivial⟩
        show List.take ((topL K l).length * 2) (List.drop 0 ((nearSort l).flatMap En.f)) = (topL K l).flatMap En.f
        rw [List.drop_zero, near_take, top_take]
      · obtain ⟨l3, y3, s3, _⟩ := c5
        obtain ⟨_, ⟨x1, g1, _⟩, ⟨x2, _⟩, ⟨x3, g3, _⟩, ⟨x4, _⟩, n1, n3, _⟩ := d5
        obtain ⟨q1, q2, q3, q4, q5, _, _, _, hg1, hT1, hT4⟩ := hr5
        obtain rfl : l = l3 := q1.symm
        obtain rfl : K = y3 := q2.symm
        obtain rfl : s3 = 4 := q3
        obtain rfl : K = x1 := q4.symm
        obtain rfl : K = x4 := q5.symm
        obtain rfl : g1 = (n1.length, n1.length) := hg1
        refine ⟨⟨by decide, by show (0 : Int) < ((4 : Nat) : Int); decide⟩, Or.inl ⟨n1, rfl, (by first | exact trivial | exact rfl), ⟨rfl, by have := hT1.len; have := hT1.l; show _ ≤ 1000000; omega⟩, fun c6 d6 hr6 => ?_, trivial⟩⟩
        obtain ⟨o6, _⟩ := c6
        obtain ⟨⟨kk6, gg6, _⟩, mm6, _⟩ := d6
        obtain ⟨ho6, hk6, hg6, hm6⟩ := hr6
        obtain rfl : K = kk6 := hk6.symm
        obtain rfl : gg6 = (n1.length, n1.length) := hg6
        obtain rfl : n1 = mm6 := hm6.symm
        replace ho6 : o6 = topL K l := ho6.trans hT1.list
        refine ⟨⟨by decide, by show (3 : Int) < ((4 : Nat) : Int); decide⟩, Or.inr ⟨(by first | exact trivial | exact rfl), trivial, fun c7 d7 hr7 => ?_, trivial⟩⟩
        obtain ⟨o7, _⟩ := c7
        obtain ⟨⟨kk7, _⟩, _⟩ := d7
        obtain ⟨ho7, hk7⟩ := hr7
        obtain rfl : K = kk7 := hk7.symm
        replace ho7 : o7 = topL K l := ho7.trans hT4.nilL.symm
        refine ⟨o6, Wk.refl _, o7, Wk.refl _, ⟨by show o6.length ≤ 1000000; rw [ho6]; omega, by rw [ho6, ho7]; simp⟩, ?_⟩
        refine ⟨⟨by decide, by show (0 : Int) < ((4 : Nat) : Int); decide⟩, Or.inl ⟨n1, rfl, (by first | exact trivial | exact rfl), ⟨rfl, by have := hT1.len; have := hT1.l; show _ ≤ 1000000; omega⟩, fun c8 d8 hr8 => ?_, trivial⟩⟩
        obtain ⟨o8, _⟩ := c8
        obtain ⟨⟨kk8, gg8, _⟩, mm8, _⟩ := d8
        obtain ⟨ho8, hk8, hg8, hm8⟩ := hr8
        obtain rfl : K = kk8 := hk8.symm
        obtain rfl : gg8 = (n1.length, n1.length) := hg8
        obtain rfl : n1 = mm8 := hm8.symm
        replace ho8 : o8 = topL K l := ho8.trans hT1.list
        refine ⟨l, Wk.refl _, by show l.length ≤ 1000000; omega, ?_⟩
        simp only [hmin]
        refine ⟨Int.natCast_nonneg _, by show ((topL K l).length : Int) ≤ ((nearSort l).length : Int); omega, by show (topL K l).length ≤ (nearSort l).length; omega, Enc.flen En _, o8, Wk.refl _, topL K l, wk_vs ⟨?_, rfl, rfl⟩, ⟨by show o8.length ≤ 1000000; rw [ho8]; omega, by rw [ho8]; simp⟩, trivial, ⟨(by first | exact trivial | exact rfl), trivial⟩, trivial, ⟨(by first | exact trivial | exact rfl), (by first | exact trivial | exact rfl), trivial⟩, trivial, trivial⟩
        show List.take ((topL K l).length * 2) (List.drop 0 ((nearSort l).flatMap En.f)) = (topL K l).flatMap En.f
        rw [List.drop_zero, near_take, top_take]
theorem rankMergesTrue (y : ShPls rankMergesShapes) (hy : ShPlOks rankMergesShapes y) : callW Try.prog (runW Try.prog (KLS [(10, lives04K), (11, pickK), (12, newYK), (14, addK), (16, tlistK), (18, sortedK), (17, sameMK)] [(4, [(15, maC), (22, mcC)])] 30) 300) 4 (ShPlAvs rankMergesShapes y) (stB false) (fun v _ => yesQ v) :=
  rankMergesHolds y.1 y.2.1 y.2.2.1 hy.1 hy.2.1 hy.2.2.1
theorem rankMergesCalls {x : ShVs rankMergesShapes} (hx : ShOks rankMergesShapes x) {W : World} {args : Array Value} (h : VRs (frozenAll W) (ShAvs rankMergesShapes x) args.toList) : Calls Try.prog 4 args W fun e w' => e = .returned (.bool true) ∧ Below W.heap.size W w' :=
  law_plain mixed (KLS_ok (cc_cons lives04Cc (cc_cons pickCc (cc_cons newYCc (cc_cons addCc (cc_cons tlistCc (cc_cons sortedCc (cc_cons sameMCc (cc_nil))))))))) rankMergesTrue hx h

end Go.Proofs.Ytfcdpdejoogapaa
