/- Forms and contracts, printed by gx.py. -/
import Derived.Test.YtfcdpdejoogapaaRows
import Derived.Test.YtfcdpdejoogapaaDvUse
import Derived.Test.YtfcdpdejoogapaaDvArg
import Derived.ProofKit
import Derived.Test.YtfcdpdejoogapaaBase
import Derived.Test.YtfcdpdejoogapaaCell
import Derived.Test.YtfcdpdejoogapaaCellB
namespace Go.Proofs.Ytfcdpdejoogapaa
open Go.Det Go.RowKit
set_option linter.unusedVariables false
set_option linter.unusedSimpArgs false
set_option maxRecDepth 100000
def readL (b : List Int) (c d : Nat) : List (List Int) := (List.range c).map (chunkAt d ((List.range (c * d)).map (num4 b)))
def readV (b : List Int) (n d : Int) : List (List Int) × Int :=
  if n < 1 ∨ 4096 < n ∨ d < 1 ∨ 1024 < d then ([], 2) else if b.length ≠ n.toNat * d.toNat * 4 then ([], 4) else if checkV (readL b n.toNat d.toNat) = 0 then (readL b n.toNat d.toNat, 0) else ([], 4)
theorem four_mul {N D : Nat} (h : N * D ≤ 4194304) (hN : N ≤ 4096) : wrapF .i64 (Int.mul (wrapF .i64 (Int.mul 4 (N : Int))) (D : Int)) = ((N * D * 4 : Nat) : Int) := by
  have e1 : Int.mul 4 (N : Int) = ((4 * N : Nat) : Int) := rfl
  have e2 : Int.mul ((4 * N : Nat) : Int) (D : Int) = ((4 * N * D : Nat) : Int) := rfl
  have e3 : wrapF .i64 (Int.mul 4 (N : Int)) = ((4 * N : Nat) : Int) := by rw [e1, w64 (by omega) (by omega)]
  rw [e3, e2, show 4 * N * D = N * D * 4 by rw [Nat.mul_assoc, Nat.mul_comm], w64 (by omega) (by omega)]
theorem readV_bad {b : List Int} {n d : Int} (h : n < 1 ∨ 4096 < n ∨ d < 1 ∨ 1024 < d) : readV b n d = ([], 2) := by rw [readV, if_pos h]
theorem read_len {b : List Int} {N D : Nat} (h : b.length = N * D * 4) (hD : 1 ≤ D) : (List.range (((List.range (b.length / 4)).map (num4 b)).length / D)).map (chunkAt D ((List.range (b.length / 4)).map (num4 b))) = readL b N D := by
  rw [h, Nat.mul_div_cancel _ (by decide), List.length_map, List.length_range, Nat.mul_div_cancel _ hD]; rfl

/-! wayfinder/cell.Read -/
noncomputable def readT : Tel ((List Int) × Int × Int × Unit) := .cons 0 (.lst Eu8) (.cons 1 (.int .i64) (.cons 2 (.int .i64) (.nil)))

theorem readFn (b : List Int) (n : Int) (d : Int) (Q : AV → Prop) : (callW Try.prog (runW Try.prog (KL [(43, checkK), (65, ofK), (64, sgnK), (67, clone32K)] [(88, [(1, rdbC)]), (89, [(1, rdvC)])]) 200) 41 (readT.cells id (b, (n, (d, ())))) (stE true) (fun x st => frzW st x Q)) =
  ( ifp (!leInt (1 : Int) n) (Q (AV.tuple [AV.nilSlice, AV.int IntKind.i64 (2 : Int)])) (ifp (!leInt n (4096 : Int)) (Q (AV.tuple [AV.nilSlice, AV.int IntKind.i64
  (2 : Int)])) (ifp (!leInt (1 : Int) d) (Q (AV.tuple [AV.nilSlice, AV.int IntKind.i64 (2 : Int)])) (ifp (!leInt d (1024 : Int)) (Q (AV.tuple [AV.nilSlice,
  AV.int IntKind.i64 (2 : Int)])) (ifp (!eqInt (Int.ofNat b.length) (wrapF IntKind.i64 ((wrapF IntKind.i64 (Int.mul (4 : Int) n)).mul d))) (Q (AV.tuple
  [AV.nilSlice, AV.int IntKind.i64 (4 : Int)])) (LoopOk Try.prog (88 : Nat) (31 : Nat) (loopBody Try.prog (88 : Nat) (1 : Nat)).loop rdbC ∧ True ∧ True ∧ (True ∧
  [(37 : Nat)] = [(37 : Nat)] ∧ rangeAs Try.prog (41 : FuncId) (8 : Nat) = rangeAs Try.prog (41 : FuncId) (8 : Nat) ∧ rangeBody Try.prog (41 : FuncId) (8 : Nat)
  = rangeBody Try.prog (41 : FuncId) (8 : Nat) ∧ False ∨ True ∧ [(37 : Nat)] = [(37 : Nat)] ∧ rangeAs Try.prog (41 : FuncId) (8 : Nat) = rangeAs Try.prog (41 :
  FuncId) (8 : Nat) ∧ rangeBody Try.prog (41 : FuncId) (8 : Nat) = rangeBody Try.prog (41 : FuncId) (8 : Nat) ∧ ∃ (l : List Int), Wk (AV.vs (List.flatMap Eu8.f
  b) b.length b.length false none (1 : Nat)) (lst Eu8 l) ∧ true = true ∧ rdbInv (((), (), (), (0 : Int), ()), ((), ()), (), ([], ()), (l, ()), ((4 : Int), ()),
  (), ()) ∧ (∀ (c : Unit) (d_1 : (Unit × Unit) × Unit × (List Int × Unit) × (List Int × Unit) × (Int × Unit) × Unit × Unit), rdbR0 (((), (), (), (0 : Int), ()),
  ((), ()), (), ([], ()), (l, ()), ((4 : Int), ()), (), ()) c d_1 → ifp (!leInt (1 : Int) d) False (LoopOk Try.prog (89 : Nat) (31 : Nat) (loopBody Try.prog (89
  : Nat) (1 : Nat)).loop rdvC ∧ True ∧ True ∧ (True ∧ [(48 : Nat)] = [(48 : Nat)] ∧ rangeAs Try.prog (41 : FuncId) (12 : Nat) = rangeAs Try.prog (41 : FuncId)
  (12 : Nat) ∧ rangeBody Try.prog (41 : FuncId) (12 : Nat) = rangeBody Try.prog (41 : FuncId) (12 : Nat) ∧ False ∨ True ∧ [(48 : Nat)] = [(48 : Nat)] ∧ rangeAs
  Try.prog (41 : FuncId) (12 : Nat) = rangeAs Try.prog (41 : FuncId) (12 : Nat) ∧ rangeBody Try.prog (41 : FuncId) (12 : Nat) = rangeBody Try.prog (41 : FuncId)
  (12 : Nat) ∧ ∃ (l : List Int), Wk (AV.vs (List.flatMap Ei32.f d_1.2.2.1.1) d_1.2.2.1.1.length d_1.2.2.1.1.length false (some (5 : Nat)) (1 : Nat)) (lst Ei32 l)
  ∧ true = true ∧ rdvInv (((), (), (), (0 : Int), ()), ((), ()), (), ([], ()), (l, ()), (d, ()), (), ()) ∧ (∀ (c : Unit) (d_2 : (Unit × Unit) × Unit × (List
  (List Int) × Unit) × (List Int × Unit) × (Int × Unit) × Unit × Unit), rdvR0 (((), (), (), (0 : Int), ()), ((), ()), (), ([], ()), (l, ()), (d, ()), (), ()) c
  d_2 → ∃ (l : List (List Int)), Wk (AV.vs (List.flatMap Ell.f d_2.2.2.1.1) d_2.2.2.1.1.length d_2.2.2.1.1.length false (some (11 : Nat)) (1 : Nat)) (lst Ell l)
  ∧ checkPre (l, ()) ∧ ifp (!eqInt (checkV l) (0 : Int)) (Q (AV.tuple [AV.nilSlice, AV.int IntKind.i64 (4 : Int)])) (Q (AV.tuple [AV.vs (List.flatMap Ell.f
  d_2.2.2.1.1) d_2.2.2.1.1.length d_2.2.2.1.1.length false (some (11 : Nat)) (1 : Nat), AV.int IntKind.i64 (0 : Int)]))) ∧ (∀ (c : Unit) (d_2 : (Unit × Unit) ×
  Unit × (Unit × Unit) × (List Int × Unit) × (Int × Unit) × Unit), rdvR1 (((), (), (), (0 : Int), ()), ((), ()), (), ([], ()), (l, ()), (d, ()), (), ()) c d_2 →
  ∃ (l : List (List Int)), Wk AV.nilSlice (lst Ell l) ∧ checkPre (l, ()) ∧ ifp (!eqInt (checkV l) (0 : Int)) (Q (AV.tuple [AV.nilSlice, AV.int IntKind.i64 (4 :
  Int)])) (Q (AV.tuple [AV.nilSlice, AV.int IntKind.i64 (0 : Int)]))) ∧ True))) ∧ (∀ (c : Unit) (d_1 : (Unit × Unit) × Unit × (Unit × Unit) × (List Int × Unit) ×
  (Int × Unit) × Unit), rdbR1 (((), (), (), (0 : Int), ()), ((), ()), (), ([], ()), (l, ()), ((4 : Int), ()), (), ()) c d_1 → ifp (!leInt (1 : Int) d) False
  (LoopOk Try.prog (89 : Nat) (31 : Nat) (loopBody Try.prog (89 : Nat) (1 : Nat)).loop rdvC ∧ True ∧ True ∧ (True ∧ [(48 : Nat)] = [(48 : Nat)] ∧ rangeAs
  Try.prog (41 : FuncId) (12 : Nat) = rangeAs Try.prog (41 : FuncId) (12 : Nat) ∧ rangeBody Try.prog (41 : FuncId) (12 : Nat) = rangeBody Try.prog (41 : FuncId)
  (12 : Nat) ∧ False ∨ True ∧ [(48 : Nat)] = [(48 : Nat)] ∧ rangeAs Try.prog (41 : FuncId) (12 : Nat) = rangeAs Try.prog (41 : FuncId) (12 : Nat) ∧ rangeBody
  Try.prog (41 : FuncId) (12 : Nat) = rangeBody Try.prog (41 : FuncId) (12 : Nat) ∧ ∃ (l : List Int), Wk AV.nilSlice (lst Ei32 l) ∧ true = true ∧ rdvInv (((),
  (), (), (0 : Int), ()), ((), ()), (), ([], ()), (l, ()), (d, ()), (), ()) ∧ (∀ (c : Unit) (d_2 : (Unit × Unit) × Unit × (List (List Int) × Unit) × (List Int ×
  Unit) × (Int × Unit) × Unit × Unit), rdvR0 (((), (), (), (0 : Int), ()), ((), ()), (), ([], ()), (l, ()), (d, ()), (), ()) c d_2 → ∃ (l : List (List Int)), Wk
  (AV.vs (List.flatMap Ell.f d_2.2.2.1.1) d_2.2.2.1.1.length d_2.2.2.1.1.length false (some (10 : Nat)) (1 : Nat)) (lst Ell l) ∧ checkPre (l, ()) ∧ ifp (!eqInt
  (checkV l) (0 : Int)) (Q (AV.tuple [AV.nilSlice, AV.int IntKind.i64 (4 : Int)])) (Q (AV.tuple [AV.vs (List.flatMap Ell.f d_2.2.2.1.1) d_2.2.2.1.1.length
  d_2.2.2.1.1.length false (some (10 : Nat)) (1 : Nat), AV.int IntKind.i64 (0 : Int)]))) ∧ (∀ (c : Unit) (d_2 : (Unit × Unit) × Unit × (Unit × Unit) × (List Int
  × Unit) × (Int × Unit) × Unit), rdvR1 (((), (), (), (0 : Int), ()), ((), ()), (), ([], ()), (l, ()), (d, ()), (), ()) c d_2 → ∃ (l : List (List Int)), Wk
  AV.nilSlice (lst Ell l) ∧ checkPre (l, ()) ∧ ifp (!eqInt (checkV l) (0 : Int)) (Q (AV.tuple [AV.nilSlice, AV.int IntKind.i64 (4 : Int)])) (Q (AV.tuple
  [AV.nilSlice, AV.int IntKind.i64 (0 : Int)]))) ∧ True))) ∧ True))))))) := by kernel_rfl

def readPre : (List Int) × Int × Int × Unit → Prop := fun (b, (n, (d, ()))) => bytesOk b
noncomputable def readRes : (List Int) × Int × Int × Unit → AV := fun (b, (n, (d, ()))) => .tuple [lst Ell (readV b n d).1, .int .i64 (readV b n d).2]
noncomputable def readK : CallC := valC readT readPre readRes

theorem readVal (b : List Int) (n : Int) (d : Int) (hp : readPre (b, (n, (d, ())))) : Val Try.prog 41 (readT.cells id (b, (n, (d, ())))) (readRes (b, (n, (d, ())))) := by
  refine Val.ofF mixed (KL_ok (cc_cons checkCc (cc_cons ofCc (cc_cons sgnCc (cc_cons clone32Cc (cc_nil)))))) (freesC rfl _) (readFn b n d) ?_
  have bad : n < 1 ∨ 4096 < n ∨ d < 1 ∨ 1024 < d → Tells (.tuple [.nilSlice, .int .i64 2]) (.tuple [lst Ell (readV b n d).1, .int .i64 (readV b n d).2]) := fun h => by
    rw [readV_bad h]; exact tells_tuple ⟨tells_nil _, tells_int rfl, trivial⟩
  rw [ifp_lt]; split
  · exact bad (by omega)
  rw [ifp_lt]; split
  · exact bad (by omega)
  rw [ifp_lt]; split
  · exact bad (by omega)
  rw [ifp_lt]; split
  · exact bad (by omega)
  obtain ⟨N, rfl⟩ := Int.eq_ofNat_of_zero_le (show 0 ≤ n by omega)
  obtain ⟨D, rfl⟩ := Int.eq_ofNat_of_zero_le (show 0 ≤ d by omega)
  have hND : N * D ≤ 4194304 := big_mul (by omega) (by omega)
  have h1 : 1 ≤ N * D := Nat.mul_pos (by omega) (by omega)
  have ev : readV b (N : Int) (D : Int) = if b.length ≠ N * D * 4 then ([], 4) else if checkV (readL b N D) = 0 then (readL b N D, 0) else ([], 4) := by
    rw [readV, if_neg (by omega)]; rfl
  rw [four_mul hND (by omega), ifp_ne]
  split
  · rename_i h
    have hl : b.length = N * D * 4 := by simp only [Int.ofNat_eq_natCast] at h; omega
    rw [if_neg (by omega)] at ev
    refine ⟨rdbOk, trivial, trivial, Or.inr ⟨by first | trivial | rfl, by first | trivial | rfl, by first | trivial | rfl, by first | trivial | rfl, b, Wk.refl _, rfl, ⟨0, N * D, rfl, rfl, hl, by omega, hND, hp, rfl⟩, fun _ x hr => ?_, fun _ _ hr => ?_, trivial⟩⟩
    · obtain ⟨_, _, ⟨r, _⟩, _⟩ := x
      have hr' : r = (List.range (b.length / 4)).map (num4 b) := hr
      have hrl : r.length = N * D := by rw [hr', List.length_map, List.length_range, hl, Nat.mul_div_cancel _ (by decide)]
      rw [ifp_lt, if_neg (by omega)]
      refine ⟨rdvOk, trivial, trivial, Or.inr ⟨by first | trivial | rfl, by first | trivial | rfl, by first | trivial | rfl, by first | trivial | rfl, r, wk_of_own, rfl, ⟨0, N, D, by rw [Nat.zero_mul]; rfl, rfl, hrl, by omega, by omega, by omega, by omega, rfl⟩, fun _ y hs => ?_, fun _ _ hs => ?_, trivial⟩⟩
      · obtain ⟨_, _, ⟨s, _⟩, _⟩ := y
        have hs' : s = readL b N D := by
          have : s = (List.range (r.length / D)).map (chunkAt D r) := hs
          rw [this, hr', read_len hl (by omega)]
        refine ⟨s, wk_of_own, trivial, ?_⟩
        rw [← hs'] at ev
        rw [ifp_ne]
        split
        · rename_i hc
          rw [if_pos hc] at ev
          show Tells _ (.tuple [lst Ell (readV b N D).1, .int .i64 (readV b N D).2])
          rw [ev]; exact tells_tuple ⟨tells_own, tells_int rfl, trivial⟩
        · rename_i hc
          rw [if_neg hc] at ev
          show Tells _ (.tuple [lst Ell (readV b N D).1, .int .i64 (readV b N D).2])
          rw [ev]; exact tells_tuple ⟨tells_nil _, tells_int rfl, trivial⟩
      · have hs' : r = [] := hs
        rw [hs'] at hrl; simp at hrl; omega
    · have hr' : b = [] := hr
      rw [hr'] at hl; simp at hl; omega
  · rename_i h
    rw [if_pos (by simp only [Int.ofNat_eq_natCast] at h; omega)] at ev
    show Tells _ (.tuple [lst Ell (readV b N D).1, .int .i64 (readV b N D).2])
    rw [ev]; exact tells_tuple ⟨tells_nil _, tells_int rfl, trivial⟩
theorem readCc : CcOk Try.prog 41 readK := val_ok rfl (fun ⟨b, ⟨n, ⟨d, _⟩⟩⟩ h => readVal b n d h)

def subV (a b : List Int) : List Int := List.zipWith (fun x y => x - y) a b
def subR (a b : List Int) : List Int × Int := if pairV a b = 0 then (if (subV a b).any beyondB = true then ([], 11) else (subV a b, 0)) else ([], pairV a b)

/-! The loop sub of wayfinder/vec.along. -/
abbrev subZ := ((List Int) × (List Int) × Unit × (Nat × Nat) × Int × Int × Unit) × ((List Int) × Unit)
noncomputable def subSl : Tel ((List Int) × (List Int) × Unit × (Nat × Nat) × Int × Int × Unit) := .cons 0 (.lst Ei32) (.cons 1 (.lst Ei32) (.cons 2 (.fnp 86 []) (.cons 9 (.slq 0 1) (.cons 21 (.int .i64) (.cons 22 (.int .i64) (.nil))))))
noncomputable def subBl : BTel ((List Int) × Unit) := .cons (.rows Ei32 21) (.nil)
noncomputable def subFs : List (LForm subZ) := [⟨_, _, subSl, subBl, fun x y => (x, y)⟩]
noncomputable def subAlts (R0 : subZ → ((Nat × Nat) × Unit) → ((List Int) × Unit) → Prop) : List (Alt subZ) := [⟨.exit 0, (Nat × Nat) × Unit, (List Int) × Unit, .cons 9 (.slq 0 1) (.nil), .cons (.rows Ei32 21) (.nil), R0⟩]

theorem subForm (a : List Int) (b : List Int) (out : Nat × Nat) (n : Int) (i : Int) (m : List Int) (N : subZ → Prop) (R0 : subZ → ((Nat × Nat) × Unit) → ((List Int) × Unit) → Prop) : ((runW Try.prog (KLS [] [] 21) 100).code none 85 42 (loopBody Try.prog 85 6) (mkT (subSl.av id (a, (b, ((), (out, (n, (i, ())))))))) [] (stL false (subBl.obs id (m, ()))) (postL 0 subFs (subAlts R0) ((a, (b, ((), (out, (n, (i, ())))))), (m, ())) N)) =
  ( ifp (!leInt n i) (idxOk i a.length ∧ ∃ (x : Int), nth ((natOf i).mul (1 : Nat)) (List.flatMap Ei32.f a) = some (AV.int IntKind.i32 x) ∧ idxOk i b.length ∧ ∃
  (x_1 : Int), nth ((natOf i).mul (1 : Nat)) (List.flatMap Ei32.f b) = some (AV.int IntKind.i32 x_1) ∧ idxOk i out.fst ∧ (Nat.add (0 : Nat) ((natOf i).mul (1 :
  Nat))).add (1 : Nat) ≤ (List.flatMap Ei32.f m).length ∧ True ∧ True ∧ True ∧ ∃ (l : List Int), Wk (AV.vs (List.flatMap Ei32.f a) a.length a.length false none
  (1 : Nat)) (lst Ei32 l) ∧ ∃ (l_1 : List Int), Wk (AV.vs (List.flatMap Ei32.f b) b.length b.length false none (1 : Nat)) (lst Ei32 l_1) ∧ ∃ (l_2 : List Int),
  setAt (Nat.add (0 : Nat) ((natOf i).mul (1 : Nat))) [AV.int IntKind.i32 (wrapF IntKind.i32 (x.sub x_1))] (List.flatMap Ei32.f m) = List.flatMap Ei32.f l_2 ∧
  true = true ∧ N ((l, l_1, (), (out.fst, out.snd), n, wrapF IntKind.i64 (i.add (1 : Int)), ()), l_2, ())) (True ∧ ∃ (l : List Int), List.flatMap Ei32.f m =
  List.flatMap Ei32.f l ∧ true = true ∧ R0 ((a, b, (), out, n, i, ()), m, ()) ((out.fst, out.snd), ()) (l, ()))) := by kernel_rfl

def subInv : subZ → Prop := fun ((a, (b, ((), (out, (n, (i, ())))))), (m, ())) => ∃ k : Nat, i = k ∧ n = a.length ∧ k ≤ a.length ∧ a.length ≤ 1024 ∧ a.length = b.length ∧ wide a ∧ wide b ∧ out = (a.length, a.length) ∧ m.length = a.length ∧ m.take k = (subV a b).take k
def subMu : subZ → Nat := fun ((a, (b, ((), (out, (n, (i, ())))))), (m, ())) => a.length - i.toNat
def subR0 : subZ → ((Nat × Nat) × Unit) → ((List Int) × Unit) → Prop := fun ((a, (b, ((), (out, (n, (i, ())))))), (m, ())) (r, _) (m2, _) => r = (a.length, a.length) ∧ m2 = subV a b
noncomputable def subC : LoopC := loopC 0 subFs (subAlts subR0) subInv

theorem subStep : stepsOk Try.prog (KLS [] [] 21) 100 85 42 (loopBody Try.prog 85 6) 0 false subFs (subAlts subR0) subInv subMu ⟨_, _, subSl, subBl, fun x y => (x, y)⟩ := by
  intro x y hz
  obtain ⟨a, b, _, out, n, i, _⟩ := x
  obtain ⟨m, _⟩ := y
  refine (subForm a b out n i m _ _).mpr ?_
  obtain ⟨k, rfl, rfl, hk, hl, hab, wa, wb, rfl, hm, ht⟩ := hz
  rw [ifp_lt]
  simp only [natOf_nat]
  have hs : (subV a b).length = a.length := by simp [subV, hab]
  split
  · rename_i h
    have hkl : k < a.length := by simpa using h
    have hkb : k < b.length := by omega
    have h1 := wa _ (List.getElem_mem hkl)
    have h2 := wb _ (List.getElem_mem hkb)
    refine ⟨idx_ok hkl, _, nth_int hkl, idx_ok hkb, _, nth_int hkb, idx_ok hkl, ?_, trivial, trivial, trivial, a, Wk.refl _, b, Wk.refl _, m.set k (a[k] - b[k]), ?_, by first | trivial | rfl, ?_⟩
    · rw [Enc.flen Ei32 m]; simp only [Nat.add_eq, Nat.mul_eq]; show _ ≤ m.length * 1; omega
    · rw [show Nat.add 0 (Nat.mul k 1) = k by simp, w32 (by show _ ≤ a[k] - b[k]; omega) (by show a[k] - b[k] < _; omega)]
      exact setAt_enc (E := Ei32) rfl (by omega)
    · rw [wsucc (by omega)]
      refine ⟨⟨k + 1, rfl, rfl, hkl, hl, hab, wa, wb, rfl, by simp [hm], ?_⟩, by show a.length - (k + 1) < a.length - k; omega, fun _ _ h => h, trivial⟩
      rw [← List.take_append_getElem (show k < (m.set k (a[k] - b[k])).length by simp; omega), List.getElem_set_self, List.take_set_of_le (Nat.le_refl k), ht, ← List.take_append_getElem (show k < (subV a b).length by omega)]
      simp [subV]
  · rename_i h
    have hkl : ¬ k < a.length := by simpa using h
    refine ⟨trivial, m, by first | trivial | rfl, by first | trivial | rfl, rfl, ?_⟩
    rw [List.take_of_length_le (by omega), List.take_of_length_le (by omega)] at ht
    exact ht
theorem subOk : LoopOk Try.prog 85 42 (.loop (loopBody Try.prog 85 6)) subC := loop_ok subMu mixed (KLS_ok (cc_nil)) rfl (steps_cons subStep (steps_nil))

/-! The loop idxr of slices.IndexFunc[[]int32,int32]. -/
abbrev idxrZ := ((Nat × Nat) × Unit × Int × Int × Unit) × ((List Int) × Unit)
noncomputable def idxrSl : Tel ((Nat × Nat) × Unit × Int × Int × Unit) := .cons 0 (.slq 0 1) (.cons 1 (.fnp 91 []) (.cons 7 (.int .i64) (.cons 8 (.int .i64) (.nil))))
noncomputable def idxrBl : BTel ((List Int) × Unit) := .cons (.rows Ei32 21) (.nil)
noncomputable def idxrFs : List (LForm idxrZ) := [⟨_, _, idxrSl, idxrBl, fun x y => (x, y)⟩]
noncomputable def idxrAlts (R0 : idxrZ → (Unit) → ((List Int) × Unit) → Prop) (R1 : idxrZ → (Int × Unit) → ((List Int) × Unit) → Prop) : List (Alt idxrZ) := [⟨.exit 0, Unit, (List Int) × Unit, .nil, .cons (.rows Ei32 21) (.nil), R0⟩, ⟨.ret, Int × Unit, (List Int) × Unit, .cons 4 (.int .i64) (.nil), .cons (.rows Ei32 21) (.nil), R1⟩]

theorem idxrForm (l : Nat × Nat) (n : Int) (i : Int) (m : List Int) (N : idxrZ → Prop) (R0 : idxrZ → (Unit) → ((List Int) × Unit) → Prop) (R1 : idxrZ → (Int × Unit) → ((List Int) × Unit) → Prop) : ((runW Try.prog (KLS [] [] 21) 100).code none 107 19 (loopBody Try.prog 107 2) (mkT (idxrSl.av id (l, ((), (n, (i, ())))))) [] (stL false (idxrBl.obs id (m, ()))) (postL 1 idxrFs (idxrAlts R0 R1) ((l, ((), (n, (i, ())))), (m, ())) N)) =
  ( ifp (!leInt n i) (idxOk i l.fst ∧ ∃ (x : Int), nth (Nat.add (0 : Nat) ((natOf i).mul (1 : Nat))) (List.flatMap Ei32.f m) = some (AV.int IntKind.i32 x) ∧ ifp
  (!leInt (-131072 : Int) x) (True ∧ ∃ (l_1 : List Int), List.flatMap Ei32.f m = List.flatMap Ei32.f l_1 ∧ true = true ∧ R1 ((l, (), n, i, ()), m, ()) (i, ())
  (l_1, ())) (ifp (!leInt x (131072 : Int)) (True ∧ ∃ (l_1 : List Int), List.flatMap Ei32.f m = List.flatMap Ei32.f l_1 ∧ true = true ∧ R1 ((l, (), n, i, ()), m,
  ()) (i, ()) (l_1, ())) (True ∧ ∃ (l_1 : List Int), List.flatMap Ei32.f m = List.flatMap Ei32.f l_1 ∧ true = true ∧ N (((l.fst, l.snd), (), n, wrapF IntKind.i64
  (i.add (1 : Int)), ()), l_1, ())))) (True ∧ ∃ (l_1 : List Int), List.flatMap Ei32.f m = List.flatMap Ei32.f l_1 ∧ true = true ∧ R0 ((l, (), n, i, ()), m, ())
  () (l_1, ()))) := by kernel_rfl

def idxrInv : idxrZ → Prop := fun ((l, ((), (n, (i, ())))), (m, ())) => ∃ k : Nat, i = k ∧ n = m.length ∧ k ≤ m.length ∧ m.length < 9223372036854775807 ∧ l = (m.length, m.length) ∧ (m.take k).any beyondB = false
def idxrMu : idxrZ → Nat := fun ((l, ((), (n, (i, ())))), (m, ())) => m.length - i.toNat
def idxrR0 : idxrZ → (Unit) → ((List Int) × Unit) → Prop := fun ((l, ((), (n, (i, ())))), (m, ())) _ (m2, _) => m2 = m ∧ m.any beyondB = false
def idxrR1 : idxrZ → (Int × Unit) → ((List Int) × Unit) → Prop := fun ((l, ((), (n, (i, ())))), (m, ())) (r, _) (m2, _) => m2 = m ∧ 0 ≤ r ∧ m.any beyondB = true
noncomputable def idxrC : LoopC := loopC 1 idxrFs (idxrAlts idxrR0 idxrR1) idxrInv

theorem idxrStep : stepsOk Try.prog (KLS [] [] 21) 100 107 19 (loopBody Try.prog 107 2) 1 false idxrFs (idxrAlts idxrR0 idxrR1) idxrInv idxrMu ⟨_, _, idxrSl, idxrBl, fun x y => (x, y)⟩ := by
  intro x y hz
  obtain ⟨l, _, n, i, _⟩ := x
  obtain ⟨m, _⟩ := y
  refine (idxrForm l n i m _ _ _).mpr ?_
  obtain ⟨k, rfl, rfl, hk, hl, rfl, ht⟩ := hz
  rw [ifp_lt]
  simp only [natOf_nat]
  split
  · rename_i h
    have hkl : k < m.length := by simpa using h
    refine ⟨idx_ok hkl, m[k], by rw [show Nat.add 0 (Nat.mul k 1) = Nat.mul k 1 by simp]; exact nth_int hkl, ?_⟩
    rw [ifp_lt, ifp_lt]
    split
    · rename_i h2
      exact ⟨trivial, m, by first | trivial | rfl, by first | trivial | rfl, rfl, by omega, any_of_get hkl (by simp [beyondB, h2])⟩
    · rename_i h2
      split
      · rename_i h3
        exact ⟨trivial, m, by first | trivial | rfl, by first | trivial | rfl, rfl, by omega, any_of_get hkl (by simp [beyondB, h3])⟩
      · rename_i h3
        refine ⟨trivial, m, by first | trivial | rfl, by first | trivial | rfl, ?_⟩
        rw [wsucc (by omega)]
        refine ⟨⟨k + 1, rfl, rfl, hkl, hl, rfl, ?_⟩, ?_, fun _ _ h => h, fun _ _ h => h, trivial⟩
        · rw [any_take_succ hkl, ht]; simp [beyondB]; omega
        · show m.length - (k + 1) < m.length - k; omega
  · rename_i h
    refine ⟨trivial, m, by first | trivial | rfl, by first | trivial | rfl, rfl, ?_⟩
    rw [take_all (by simpa using h)] at ht; exact ht
theorem idxrOk : LoopOk Try.prog 107 19 (.loop (loopBody Try.prog 107 2)) idxrC := loop_ok idxrMu mixed (KLS_ok (cc_nil)) rfl (steps_cons idxrStep (steps_nil))

/-! wayfinder/vec.Sub -/
noncomputable def subT : Tel ((List Int) × (List Int) × Unit) := .cons 0 (.lst Ei32) (.cons 1 (.lst Ei32) (.nil))

theorem subFn (a : List Int) (b : List Int) (Q : AV → Prop) : (callW Try.prog (runW Try.prog (KLS [(106, pairK)] [(85, [(6, subC)]), (107, [(2, idxrC)])] 21) 200) 61 (subT.cells id (a, (b, ()))) (stE false) (fun x st => frzW st x Q)) =
  ( ∃ (l : List Int), Wk (AV.vs (List.flatMap Ei32.f a) a.length a.length false none (1 : Nat)) (lst Ei32 l) ∧ ∃ (l_1 : List Int), Wk (AV.vs (List.flatMap Ei32.f b)
  b.length b.length false none (1 : Nat)) (lst Ei32 l_1) ∧ pairPre (l, l_1, ()) ∧ ifp (!eqInt (pairV l l_1) (0 : Int)) (Q (AV.tuple [AV.nilSlice, AV.int
  IntKind.i64 (pairV l l_1)])) ((0 : Int) ≤ Int.ofNat a.length ∧ Int.ofNat a.length ≤ Int.ofNat a.length ∧ Int.ofNat a.length ≤ (16777216 : Int) ∧ roomy (natOf
  (Int.ofNat a.length)) (4 : Nat) = true ∧ LoopOk Try.prog (85 : Nat) (42 : Nat) (loopBody Try.prog (85 : Nat) (6 : Nat)).loop subC ∧ True ∧ True ∧ ∃ (l : List
  Int), Wk (AV.vs (List.flatMap Ei32.f a) a.length a.length false none (1 : Nat)) (lst Ei32 l) ∧ ∃ (l_2 : List Int), Wk (AV.vs (List.flatMap Ei32.f b) b.length
  b.length false none (1 : Nat)) (lst Ei32 l_2) ∧ ∃ (l_3 : List Int), repl (natOf (Int.ofNat a.length)) [AV.int IntKind.i32 (0 : Int)] = List.flatMap Ei32.f l_3
  ∧ true = true ∧ subInv ((l, l_2, (), (natOf (Int.ofNat a.length), natOf (Int.ofNat a.length)), Int.ofNat a.length, (0 : Int), ()), l_3, ()) ∧ (∀ (c : (Nat ×
  Nat) × Unit) (d : List Int × Unit), subR0 ((l, l_2, (), (natOf (Int.ofNat a.length), natOf (Int.ofNat a.length)), Int.ofNat a.length, (0 : Int), ()), l_3, ())
  c d → LoopOk Try.prog (107 : Nat) (19 : Nat) (loopBody Try.prog (107 : Nat) (2 : Nat)).loop idxrC ∧ True ∧ True ∧ ∃ (l : List Int), List.flatMap Ei32.f d.1 =
  List.flatMap Ei32.f l ∧ true = true ∧ idxrInv (((c.1.fst, c.1.snd), (), Int.ofNat c.1.fst, (0 : Int), ()), l, ()) ∧ (∀ (c_1 : Unit) (d : List Int × Unit),
  idxrR0 (((c.1.fst, c.1.snd), (), Int.ofNat c.1.fst, (0 : Int), ()), l, ()) c_1 d → Nat.add (0 : Nat) (c.1.fst.mul (1 : Nat)) ≤ (List.flatMap Ei32.f d.1).length
  ∧ Q (AV.tuple [AV.vs (List.take (c.1.fst.mul (1 : Nat)) (List.drop (0 : Nat) (List.flatMap Ei32.f d.1))) c.1.fst c.1.snd false none (1 : Nat), AV.int
  IntKind.i64 (0 : Int)])) ∧ (∀ (c_1 : Int × Unit) (d : List Int × Unit), idxrR1 (((c.1.fst, c.1.snd), (), Int.ofNat c.1.fst, (0 : Int), ()), l, ()) c_1 d → ifp
  (leInt (0 : Int) c_1.1) (Q (AV.tuple [AV.nilSlice, AV.int IntKind.i64 (11 : Int)])) (Nat.add (0 : Nat) (c.1.fst.mul (1 : Nat)) ≤ (List.flatMap Ei32.f
  d.1).length ∧ Q (AV.tuple [AV.vs (List.take (c.1.fst.mul (1 : Nat)) (List.drop (0 : Nat) (List.flatMap Ei32.f d.1))) c.1.fst c.1.snd false none (1 : Nat),
  AV.int IntKind.i64 (0 : Int)]))) ∧ True) ∧ True)) := by kernel_rfl

def subPre : (List Int) × (List Int) × Unit → Prop := fun (a, (b, ())) => True
noncomputable def subRes : (List Int) × (List Int) × Unit → AV := fun (a, (b, ())) => .tuple [lst Ei32 (subR a b).1, .int .i64 (subR a b).2]
noncomputable def subK : CallC := valC subT subPre subRes

theorem subVal (a : List Int) (b : List Int) (hp : subPre (a, (b, ()))) : Val Try.prog 61 (subT.cells id (a, (b, ()))) (subRes (a, (b, ()))) := by
  refine Val.ofF mixed (KLS_ok (cc_cons pairCc (cc_nil))) (freesC rfl _) (subFn a b) ?_
  refine ⟨a, Wk.refl _, b, Wk.refl _, trivial, ?_⟩
  rw [ifp_ne]
  split
  · rename_i h
    obtain ⟨ca, cb, hab⟩ := pair_zero h
    obtain ⟨a1, a2, wa⟩ := cw_zero ca
    obtain ⟨_, _, wb⟩ := cw_zero cb
    refine ⟨by show (0 : Int) ≤ (a.length : Int); omega, Int.le_refl _, by show (a.length : Int) ≤ _; omega, roomy_small (by show a.length ≤ _; omega) (by decide), subOk, trivial, trivial, a, Wk.refl _, b, Wk.refl _, List.replicate a.length 0, repl_enc (E := Ei32) _, by first | trivial | rfl, ⟨0, rfl, rfl, by omega, a2, hab, wa, wb, rfl, by simp, by simp⟩, fun c d hr => ?_, trivial⟩
    obtain ⟨r, _⟩ := c
    obtain ⟨m, _⟩ := d
    obtain ⟨rfl, rfl⟩ := hr
    have hm : (subV a b).length = a.length := by simp [subV, hab]
    refine ⟨idxrOk, trivial, trivial, subV a b, rfl, by first | trivial | rfl, ⟨0, rfl, by show (a.length : Int) = _; rw [hm], by omega, by omega, by show (a.length, a.length) = _; rw [hm], by simp⟩, fun _ d hr => ?_, fun x d hr => ?_, trivial⟩
    · obtain ⟨m, _⟩ := d
      obtain ⟨rfl, hb⟩ := hr
      have e : subR a b = (subV a b, 0) := by rw [subR, if_pos h, if_neg (by rw [hb]; decide)]
      have hf : (List.flatMap Ei32.f (subV a b)).length = a.length := by rw [Enc.flen Ei32]; show _ * 1 = _; omega
      refine ⟨by rw [hf]; simp, ?_⟩
      show Tells _ (.tuple [lst Ei32 (subR a b).1, .int .i64 (subR a b).2])
      rw [e]
      exact tells_tuple ⟨tells_lst ⟨by show List.take _ _ = _; rw [List.drop_zero, List.take_of_length_le (by rw [hf]; simp)], hm.symm, rfl⟩, tells_int rfl, trivial⟩
    · obtain ⟨r, _⟩ := x
      obtain ⟨m, _⟩ := d
      obtain ⟨rfl, h0, hb⟩ := hr
      rw [ifp_le, if_pos h0]
      have e : subR a b = ([], 11) := by rw [subR, if_pos h, if_pos hb]
      show Tells _ (.tuple [lst Ei32 (subR a b).1, .int .i64 (subR a b).2])
      rw [e]
      exact tells_tuple ⟨tells_nil _, tells_int rfl, trivial⟩
  · rename_i h
    have e : subR a b = ([], pairV a b) := by rw [subR, if_neg h]
    show Tells _ (.tuple [lst Ei32 (subR a b).1, .int .i64 (subR a b).2])
    rw [e]
    exact tells_tuple ⟨tells_nil _, tells_int rfl, trivial⟩
theorem subCc : CcOk Try.prog 61 subK := val_ok rfl (fun ⟨a, ⟨b, _⟩⟩ h => subVal a b h)

def residV (c : List (List Int)) (v : List Int) : Int × List Int × Int :=
  if bothV c v = 0 then
    (if (subR v (c.getD (nearV c v).1.toNat [])).2 = 0 then ((nearV c v).1, (subR v (c.getD (nearV c v).1.toNat [])).1, 0) else (0, [], (subR v (c.getD (nearV c v).1.toNat [])).2))
  else (0, [], bothV c v)
theorem nearGo_idx (v : List Int) : ∀ (c : List (List Int)) (i : Int) (s : Int × Int), 0 ≤ i → 0 ≤ s.1 → (s.1 < i ∨ s.2 < 0 ∧ c ≠ []) → 0 ≤ (nearGo v c i s).1 ∧ (nearGo v c i s).1 < i + c.length
  | [], i, s, h0, hs, h => by
    rcases h with h | h
    · show 0 ≤ s.1 ∧ s.1 < i + 0; omega
    · exact absurd rfl h.2
  | x :: c, i, s, h0, hs, h => by
    rw [nearGo]
    have hh := nearGo_idx v c (i + 1) (if s.2 < 0 ∨ sqs x v < s.2 then (i, sqs x v) else s) (by omega) (by split; exact h0; exact hs)
      (by left; split
          · show i < i + 1; omega
          · rename_i hn; rcases h with h | h
            · show s.1 < i + 1; omega
            · exact absurd (Or.inl h.1) hn)
    simp only [List.length_cons]; omega
theorem nearV_idx {c : List (List Int)} {v : List Int} (h : bothV c v = 0) : 0 ≤ (nearV c v).1 ∧ (nearV c v).1 < c.length := by
  obtain ⟨a1, _, _⟩ := bothV_inv h
  obtain ⟨l1, _, _⟩ := checkV_inv a1
  rw [nearV, if_pos h]
  have := nearGo_idx v c 0 (0, -1) (by decide) (by decide) (Or.inr ⟨by decide, by intro e; rw [e] at l1; simp at l1⟩)
  omega

/-! wayfinder/cell.Residual -/
noncomputable def residT : Tel ((List (List Int)) × (List Int) × Unit) := .cons 0 (.lst Ell) (.cons 1 (.lst Ei32) (.nil))

theorem residFn (c : List (List Int)) (v : List Int) (Q : AV → Prop) : (callW Try.prog (runW Try.prog (KL [(29, nearestK), (61, subK)] []) 200) 39 (residT.cells id (c, (v, ()))) (stE false) (fun x st => frzW st x Q)) =
  ( ∃ (l : List (List Int)), Wk (AV.vs (List.flatMap Ell.f c) c.length c.length false none (1 : Nat)) (lst Ell l) ∧ ∃ (l_1 : List Int), Wk (AV.vs (List.flatMap
  Ei32.f v) v.length v.length false none (1 : Nat)) (lst Ei32 l_1) ∧ nearestPre (l, l_1, ()) ∧ ifp (!eqInt (bothV l l_1) (0 : Int)) (Q (AV.tuple [AV.int
  IntKind.i64 (0 : Int), AV.nilSlice, AV.int IntKind.i64 (bothV l l_1)])) (idxOk (nearV l l_1).fst c.length ∧ ∃ (l' : List AV), ∃ (n : Nat), ∃ (c_1 : Nat), ∃ (x
  : Bool), ∃ (w : Option Nat), ∃ (e : Nat), nth ((natOf (nearV l l_1).fst).mul (1 : Nat)) (List.flatMap Ell.f c) = some (AV.vs l' n c_1 x w e) ∧ ∃ (l_2 : List
  Int), Wk (AV.vs (List.flatMap Ei32.f v) v.length v.length false none (1 : Nat)) (lst Ei32 l_2) ∧ ∃ (l_3 : List Int), Wk (AV.vs l' n c_1 x w e) (lst Ei32 l_3) ∧
  subPre (l_2, l_3, ()) ∧ ifp (!eqInt (subR l_2 l_3).snd (0 : Int)) (Q (AV.tuple [AV.int IntKind.i64 (0 : Int), AV.nilSlice, AV.int IntKind.i64 (subR l_2
  l_3).snd])) (Q (AV.tuple [AV.int IntKind.i64 (nearV l l_1).fst, AV.vs (List.flatMap Ei32.f (subR l_2 l_3).fst) (subR l_2 l_3).fst.length (subR l_2
  l_3).fst.length false none (1 : Nat), AV.int IntKind.i64 (0 : Int)])))) := by kernel_rfl

def residPre : (List (List Int)) × (List Int) × Unit → Prop := fun (c, (v, ())) => True
noncomputable def residRes : (List (List Int)) × (List Int) × Unit → AV := fun (c, (v, ())) => .tuple [.int .i64 (residV c v).1, lst Ei32 (residV c v).2.1, .int .i64 (residV c v).2.2]
noncomputable def residK : CallC := valC residT residPre residRes

theorem residVal (c : List (List Int)) (v : List Int) (hp : residPre (c, (v, ()))) : Val Try.prog 39 (residT.cells id (c, (v, ()))) (residRes (c, (v, ()))) := by
  refine Val.ofF mixed (KL_ok (cc_cons nearestCc (cc_cons subCc (cc_nil)))) (freesC rfl _) (residFn c v) ?_
  refine ⟨c, Wk.refl _, v, Wk.refl _, trivial, ?_⟩
  rw [ifp_ne]
  split
  · rename_i h
    obtain ⟨i0, i1⟩ := nearV_idx h
    obtain ⟨k, hk⟩ := Int.eq_ofNat_of_zero_le i0
    have hkl : k < c.length := by omega
    have e : residV c v = if (subR v c[k]).2 = 0 then ((k : Int), (subR v c[k]).1, 0) else (0, [], (subR v c[k]).2) := by
      rw [residV, if_pos h, hk, show c.getD ((k : Int).toNat) [] = c[k] by show c.getD k [] = _; simp [hkl]]
    refine ⟨by rw [hk]; exact idx_ok hkl, _, _, _, _, _, _, by rw [hk]; exact nth_lst hkl, v, Wk.refl _, c[k], Wk.refl _, trivial, ?_⟩
    rw [ifp_ne]
    show ite _ _ _
    split
    · rename_i h2
      rw [if_pos h2] at e
      show Tells _ (.tuple [.int .i64 (residV c v).1, lst Ei32 (residV c v).2.1, .int .i64 (residV c v).2.2])
      rw [e, hk]
      exact tells_tuple ⟨tells_int rfl, tells_lst ⟨rfl, rfl, rfl⟩, tells_int rfl, trivial⟩
    · rename_i h2
      rw [if_neg h2] at e
      show Tells _ (.tuple [.int .i64 (residV c v).1, lst Ei32 (residV c v).2.1, .int .i64 (residV c v).2.2])
      rw [e]
      exact tells_tuple ⟨tells_int rfl, tells_nil _, tells_int rfl, trivial⟩
  · rename_i h
    have e : residV c v = (0, [], bothV c v) := by rw [residV, if_neg h]
    show Tells _ (.tuple [.int .i64 (residV c v).1, lst Ei32 (residV c v).2.1, .int .i64 (residV c v).2.2])
    rw [e]
    exact tells_tuple ⟨tells_int rfl, tells_nil _, tells_int rfl, trivial⟩
theorem residCc : CcOk Try.prog 39 residK := val_ok rfl (fun ⟨c, ⟨v, _⟩⟩ h => residVal c v h)

end Go.Proofs.Ytfcdpdejoogapaa
