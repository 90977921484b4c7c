/- Forms and contracts, printed by gx.py. -/
import Derived.Test.YtjckmoikfbcemaaGreatRows
import Derived.Test.YtjckmoikfbcemaaGreatDvUse
import Derived.Test.YtjckmoikfbcemaaGreatDvArg
import Derived.ProofKit
import Derived.Test.YtjckmoikfbcemaaGreatBase
import Derived.Test.YtjckmoikfbcemaaGreatDvStab2
import Derived.Test.YtjckmoikfbcemaaGreatDvUse2
import Derived.Test.YtjckmoikfbcemaaGreatDvSort
import Derived.Test.YtjckmoikfbcemaaGreatOrdP
import Derived.Test.YtjckmoikfbcemaaGreatStP
import Derived.Test.YtjckmoikfbcemaaGreatStQ
import Derived.Test.YtjckmoikfbcemaaGreatDvClone
import Derived.Test.YtjckmoikfbcemaaGreatClone
namespace Go.Proofs.YtjckmoikfbcemaaGreat
open Go.Det Go.RowKit
set_option linter.unusedVariables false
set_option linter.unusedSimpArgs false
set_option maxRecDepth 100000
noncomputable def sortC (l : List Cd) : List Cd := Go.Det.Stab.sort ltC l
theorem wk_nilC : Wk (.vs [] 0 0 false none 4) (lst Ec []) := Wk.refl _

/-! wayfinder/wayfinderkit.Own[wayfinder/api.Cand] -/
noncomputable def ownCT : Tel ((List Cd) × Unit) := .cons 0 (.lst Ec) (.nil)

theorem ownCFn (l : List Cd) (Q : AV → Prop) : (callW Tryz.prog (runW Tryz.prog (KL [] []) 200) 9 (ownCT.cells id (l, ())) (stE true) (fun x st => frzW st x Q)) =
  ( (List.flatMap Ec.f l).length = l.length.mul (4 : Nat) ∧ ifp (allScalar (List.flatMap Ec.f l) && true) (ifp (roomy (Nat.add (0 : Nat) l.length) (32 : Nat)) (Q
  (AV.vs ([] ++ List.flatMap Ec.f l) (Nat.add (0 : Nat) l.length) (Nat.add (0 : Nat) l.length) false (some (1 : Nat)) (4 : Nat))) False) False) := by kernel_rfl

def ownCPre : (List Cd) × Unit → Prop := fun (l, ()) => l.length ≤ 1000000
noncomputable def ownCRes : (List Cd) × Unit → AV := fun (l, ()) => lst Ec l
noncomputable def ownCK : CallC := valC ownCT ownCPre ownCRes

theorem ownCVal (l : List Cd) (hp : ownCPre (l, ())) : Val Tryz.prog 9 (ownCT.cells id (l, ())) (ownCRes (l, ())) := by
  refine Val.ofF mixed (KL_ok (cc_nil)) (freesC rfl _) (ownCFn l) ?_
  have hp' : l.length ≤ 1000000 := hp
  refine ⟨Enc.flen Ec l, ?_⟩
  rw [ifp_pos (by rw [Enc.fscal Ec]; rfl), ifp_pos (roomy_small (by simp only [Nat.add_eq]; omega) (by decide))]
  exact tells_lst ⟨rfl, by show 0 + l.length = _; omega, rfl⟩
theorem ownCCc : CcOk Tryz.prog 9 ownCK := val_ok rfl (fun ⟨l, _⟩ h => ownCVal l h)

/-! wayfinder/probe.Less -/
noncomputable def lessCT : Tel (Cd × Cd × Unit) := .cons 0 (.agg Ec) (.cons 1 (.agg Ec) (.nil))

theorem lessCFn (a : Cd) (b : Cd) (Q : AV → Prop) : (callW Tryz.prog (runW Tryz.prog (KL [(42, cmpcK)] []) 200) 10 (lessCT.cells id (a, (b, ()))) (stE false) (fun x st => frzW st x Q)) =
  ( ∃ (a_1 : Cd), AV.agg [AV.int IntKind.i64 a.fst, AV.int IntKind.i64 a.snd.fst, AV.int IntKind.i64 a.snd.snd.fst, AV.int IntKind.i64 a.snd.snd.snd.fst] = AV.agg
  [AV.int IntKind.i64 a_1.fst, AV.int IntKind.i64 a_1.snd.fst, AV.int IntKind.i64 a_1.snd.snd.fst, AV.int IntKind.i64 a_1.snd.snd.snd.fst] ∧ ∃ (a : Cd), AV.agg
  [AV.int IntKind.i64 b.fst, AV.int IntKind.i64 b.snd.fst, AV.int IntKind.i64 b.snd.snd.fst, AV.int IntKind.i64 b.snd.snd.snd.fst] = AV.agg [AV.int IntKind.i64
  a.fst, AV.int IntKind.i64 a.snd.fst, AV.int IntKind.i64 a.snd.snd.fst, AV.int IntKind.i64 a.snd.snd.snd.fst] ∧ cmpcPre (a_1, a, ()) ∧ ifp (!leInt (0 : Int)
  (cmpcV a_1 a)) (Q (AV.bool true)) (Q (AV.bool false))) := by kernel_rfl

def lessCPre : Cd × Cd × Unit → Prop := fun (a, (b, ())) => True
noncomputable def lessCRes : Cd × Cd × Unit → AV := fun (a, (b, ())) => .bool (ltC a b)
noncomputable def lessCK : CallC := valC lessCT lessCPre lessCRes

theorem lessCVal (a : Cd) (b : Cd) (hp : lessCPre (a, (b, ()))) : Val Tryz.prog 10 (lessCT.cells id (a, (b, ()))) (lessCRes (a, (b, ()))) := by
  refine Val.ofF mixed (KL_ok (cc_cons cmpcCc (cc_nil))) (freesC rfl _) (lessCFn a b) ?_
  refine ⟨a, rfl, b, rfl, trivial, ?_⟩
  rw [ifp_lt]
  split
  · rename_i h; exact tells_bool (by rw [ltC, decide_eq_true h])
  · rename_i h; exact tells_bool (by rw [ltC, decide_eq_false h])
theorem lessCCc : CcOk Tryz.prog 10 lessCK := val_ok rfl (fun ⟨a, ⟨b, _⟩⟩ h => lessCVal a b h)

/-! The loop sameCL of wayfinder/wayfinderkit.Same[wayfinder/api.Cand]. -/
abbrev sameCLZ := ((List Cd) × (List Cd) × Int × Unit) × (Unit)
noncomputable def sameCLSl : Tel ((List Cd) × (List Cd) × Int × Unit) := .cons 0 (.lst Ec) (.cons 1 (.lst Ec) (.cons 5 (.int .i64) (.nil)))
noncomputable def sameCLBl : BTel (Unit) := .nil
noncomputable def sameCLFs : List (LForm sameCLZ) := [⟨_, _, sameCLSl, sameCLBl, fun x y => (x, y)⟩]
noncomputable def sameCLAlts (R0 : sameCLZ → (Unit) → (Unit) → Prop) (R1 : sameCLZ → (Bool × Unit) → (Unit) → Prop) : List (Alt sameCLZ) := [⟨.exit 0, Unit, Unit, .nil, .nil, R0⟩, ⟨.ret, Bool × Unit, Unit, .cons 4 (.bool) (.nil), .nil, R1⟩]

theorem sameCLForm (a : List Cd) (b : List Cd) (i : Int) (N : sameCLZ → Prop) (R0 : sameCLZ → (Unit) → (Unit) → Prop) (R1 : sameCLZ → (Bool × Unit) → (Unit) → Prop) : ((runW Tryz.prog (KL [] []) 100).code none 13 26 (loopBody Tryz.prog 13 4) (mkT (sameCLSl.av id (a, (b, (i, ()))))) [] (stL false (sameCLBl.obs id ())) (postL 0 sameCLFs (sameCLAlts R0 R1) ((a, (b, (i, ()))), ()) N)) =
  ( ifp (!leInt (Int.ofNat a.length) i) (idxOk i a.length ∧ ∃ (x : Int), nth (((natOf i).mul (4 : Nat)).add (0 : Nat)) (List.flatMap Ec.f a) = some (AV.int
  IntKind.i64 x) ∧ ∃ (x_1 : Int), nth (((natOf i).mul (4 : Nat)).add (1 : Nat)) (List.flatMap Ec.f a) = some (AV.int IntKind.i64 x_1) ∧ ∃ (x_2 : Int), nth
  (((natOf i).mul (4 : Nat)).add (2 : Nat)) (List.flatMap Ec.f a) = some (AV.int IntKind.i64 x_2) ∧ ∃ (x_3 : Int), nth (((natOf i).mul (4 : Nat)).add (3 : Nat))
  (List.flatMap Ec.f a) = some (AV.int IntKind.i64 x_3) ∧ idxOk i b.length ∧ ∃ (x_4 : Int), nth (((natOf i).mul (4 : Nat)).add (0 : Nat)) (List.flatMap Ec.f b) =
  some (AV.int IntKind.i64 x_4) ∧ ∃ (x_5 : Int), nth (((natOf i).mul (4 : Nat)).add (1 : Nat)) (List.flatMap Ec.f b) = some (AV.int IntKind.i64 x_5) ∧ ∃ (x_6 :
  Int), nth (((natOf i).mul (4 : Nat)).add (2 : Nat)) (List.flatMap Ec.f b) = some (AV.int IntKind.i64 x_6) ∧ ∃ (x_7 : Int), nth (((natOf i).mul (4 : Nat)).add
  (3 : Nat)) (List.flatMap Ec.f b) = some (AV.int IntKind.i64 x_7) ∧ ifp (eqInt x x_4) (ifp (eqInt x_1 x_5) (ifp (eqInt x_2 x_6) (ifp (eqInt x_3 x_7) (True ∧
  True ∧ True ∧ ∃ (l : List Cd), Wk (AV.vs (List.flatMap Ec.f a) a.length a.length false none (4 : Nat)) (lst Ec l) ∧ ∃ (l_1 : List Cd), Wk (AV.vs (List.flatMap
  Ec.f b) b.length b.length false none (4 : Nat)) (lst Ec l_1) ∧ true = true ∧ N ((l, l_1, wrapF IntKind.i64 (i.add (1 : Int)), ()), ())) (True ∧ True ∧ True ∧
  true = true ∧ R1 ((a, b, i, ()), ()) (false, ()) ())) (True ∧ True ∧ True ∧ true = true ∧ R1 ((a, b, i, ()), ()) (false, ()) ())) (True ∧ True ∧ True ∧ true =
  true ∧ R1 ((a, b, i, ()), ()) (false, ()) ())) (True ∧ True ∧ True ∧ true = true ∧ R1 ((a, b, i, ()), ()) (false, ()) ())) (True ∧ true = true ∧ R0 ((a, b, i,
  ()), ()) () ())) := by kernel_rfl

def sameCLInv : sameCLZ → Prop := fun ((a, (b, (i, ()))), ()) => ∃ k : Nat, i = k ∧ k ≤ a.length ∧ a.length ≤ 1000000 ∧ a.length = b.length ∧ a.take k = b.take k
def sameCLMu : sameCLZ → Nat := fun ((a, (b, (i, ()))), ()) => a.length - i.toNat
def sameCLR0 : sameCLZ → (Unit) → (Unit) → Prop := fun ((a, (b, (i, ()))), ()) _ _ => a = b
def sameCLR1 : sameCLZ → (Bool × Unit) → (Unit) → Prop := fun ((a, (b, (i, ()))), ()) (r, _) _ => r = false ∧ a ≠ b
noncomputable def sameCLC : LoopC := loopC 0 sameCLFs (sameCLAlts sameCLR0 sameCLR1) sameCLInv

theorem sameCLStep : stepsOk Tryz.prog (KL [] []) 100 13 26 (loopBody Tryz.prog 13 4) 0 false sameCLFs (sameCLAlts sameCLR0 sameCLR1) sameCLInv sameCLMu ⟨_, _, sameCLSl, sameCLBl, fun x y => (x, y)⟩ := by
  intro x y hz
  obtain ⟨a, b, i, _⟩ := x
  obtain _ := y
  refine (sameCLForm a b i _ _ _).mpr ?_
  obtain ⟨k, rfl, hk, hl, hab, ht⟩ := hz
  rw [ifp_lt]
  simp only [natOf_nat]
  split
  · rename_i h
    have hka : k < a.length := by simpa using h
    have hkb : k < b.length := by omega
    have far : a[k] ≠ b[k] → a ≠ b := fun hn e => hn (by subst e; rfl)
    refine ⟨idx_ok hka, _, nth_cd0 hka, _, nth_cd1 hka, _, nth_cd2 hka, _, nth_cd3 hka, idx_ok hkb, _, nth_cd0 hkb, _, nth_cd1 hkb, _, nth_cd2 hkb, _, nth_cd3 hkb, ?_⟩
    rw [ifp_eq, ifp_eq, ifp_eq, ifp_eq]
    split
    · rename_i h1
      split
      · rename_i h2
        split
        · rename_i h3
          split
          · rename_i h4
            refine ⟨trivial, trivial, trivial, a, Wk.refl _, b, Wk.refl _, (by first | exact trivial | exact rfl), ?_⟩
            rw [wsucc (by omega)]
            refine ⟨⟨k + 1, rfl, hka, hl, hab, ?_⟩, by show a.length - (k + 1) < a.length - k; omega, fun _ _ h => h, fun _ _ h => h, trivial⟩
            have e : a[k] = b[k] := Prod.ext h1 (Prod.ext h2 (Prod.ext h3 (Prod.ext h4 rfl)))
            rw [← List.take_append_getElem hka, ← List.take_append_getElem hkb, ht, e]
          · rename_i h4
            exact ⟨trivial, trivial, trivial, (by first | exact trivial | exact rfl), rfl, far fun e => h4 (by rw [e])⟩
        · rename_i h3
          exact ⟨trivial, trivial, trivial, (by first | exact trivial | exact rfl), rfl, far fun e => h3 (by rw [e])⟩
      · rename_i h2
        exact ⟨trivial, trivial, trivial, (by first | exact trivial | exact rfl), rfl, far fun e => h2 (by rw [e])⟩
    · rename_i h1
      exact ⟨trivial, trivial, trivial, (by first | exact trivial | exact rfl), rfl, far fun e => h1 (by rw [e])⟩
  · rename_i h
    refine ⟨trivial, (by first | exact trivial | exact rfl), ?_⟩
    show a = b
    rw [take_all (by simpa using h), take_all (by rw [← hab]; simpa using h)] at ht; exact ht
theorem sameCLOk : LoopOk Tryz.prog 13 26 (.loop (loopBody Tryz.prog 13 4)) (sameCLC) := loop_ok sameCLMu  mixed (KL_ok (cc_nil)) rfl (steps_cons sameCLStep (steps_nil))

/-! wayfinder/wayfinderkit.Same[wayfinder/api.Cand] -/
noncomputable def sameCT : Tel ((List Cd) × (List Cd) × Unit) := .cons 0 (.lst Ec) (.cons 1 (.lst Ec) (.nil))

theorem sameCFn (a : List Cd) (b : List Cd) (Q : AV → Prop) : (callW Tryz.prog (runW Tryz.prog (KL [] [(13, [(4, sameCLC)])]) 200) 13 (sameCT.cells id (a, (b, ()))) (stE false) (fun x st => frzW st x Q)) =
  ( ifp (!eqInt (Int.ofNat a.length) (Int.ofNat b.length)) (Q (AV.bool false)) (LoopOk Tryz.prog (13 : FuncId) (26 : Nat) (loopBody Tryz.prog (13 : FuncId) (4 :
  Nat)).loop sameCLC ∧ True ∧ True ∧ ∃ (l : List Cd), Wk (AV.vs (List.flatMap Ec.f a) a.length a.length false none (4 : Nat)) (lst Ec l) ∧ ∃ (l_1 : List Cd), Wk
  (AV.vs (List.flatMap Ec.f b) b.length b.length false none (4 : Nat)) (lst Ec l_1) ∧ true = true ∧ sameCLInv ((l, l_1, (0 : Int), ()), ()) ∧ (∀ (c d : Unit),
  sameCLR0 ((l, l_1, (0 : Int), ()), ()) c d → Q (AV.bool true)) ∧ (∀ (c : Bool × Unit) (d : Unit), sameCLR1 ((l, l_1, (0 : Int), ()), ()) c d → Q (AV.bool c.1))
  ∧ True)) := by kernel_rfl

def sameCPre : (List Cd) × (List Cd) × Unit → Prop := fun (a, (b, ())) => a.length ≤ 1000000
noncomputable def sameCRes : (List Cd) × (List Cd) × Unit → AV := fun (a, (b, ())) => .bool (decide (a = b))
noncomputable def sameCK : CallC := valC sameCT sameCPre sameCRes

theorem sameCVal (a : List Cd) (b : List Cd) (hp : sameCPre (a, (b, ()))) : Val Tryz.prog 13 (sameCT.cells id (a, (b, ()))) (sameCRes (a, (b, ()))) := by
  refine Val.ofF mixed (KL_ok (cc_nil)) (freesC rfl _) (sameCFn a b) ?_
  have hp' : a.length ≤ 1000000 := hp
  rw [ifp_ne]
  split
  · rename_i h
    refine ⟨sameCLOk, ?_⟩
    repeat (first
      | (refine ⟨Nat.le_refl _, ?_⟩)
      | (rw [ifp_pos (roomy_small (by simp only [Nat.add_eq]; omega) (by decide))])
      | (refine ⟨trivial, ?_⟩)
      | (refine ⟨(rfl : true = true), ?_⟩)
      | (refine ⟨idx_ok (by omega), ?_⟩)
      | (refine ⟨idx_ok0 (by omega), ?_⟩)
      | (refine ⟨_, nth_int (by omega), ?_⟩)
      | (refine ⟨_, _, _, _, _, _, nth_lst (by omega), ?_⟩)
      | (refine ⟨_, _, _, _, _, _, nth_lst0 (by omega), ?_⟩)
      | (refine ⟨_, Wk.refl _, ?_⟩)
      | (rw [ifp_pos rfl])
      | (refine ⟨(rfl : (_ : Tr (List AV)) = _), ?_⟩)
      | (refine ⟨(rfl : (_ : List Nat) = _), ?_⟩)
      | (refine ⟨(rfl : (_ : Code) = _), ?_⟩))
    refine ⟨⟨0, rfl, by omega, hp', by simp at h; omega, rfl⟩, fun _ _ hr => ?_, fun c _ hr => ?_, trivial⟩
    · exact tells_bool (by rw [decide_eq_true (show a = b from hr)])
    · obtain ⟨r, _⟩ := c
      obtain ⟨rfl, hr⟩ := hr
      exact tells_bool (by rw [decide_eq_false hr])
  · rename_i h
    exact tells_bool (by rw [decide_eq_false]; intro e; subst e; exact h rfl)
theorem sameCCc : CcOk Tryz.prog 13 sameCK := val_ok rfl (fun ⟨a, ⟨b, _⟩⟩ h => sameCVal a b h)

/-! slices.Clone[[]wayfinder/api.Cand,wayfinder/api.Cand] -/
noncomputable def cln1T : Tel ((List Cd) × Unit) := .cons 0 (.lst Ec) (.nil)

theorem cln1Fn (l : List Cd) (Q : AV → Prop) : (callW Tryz.prog (runW Tryz.prog (KLS [] [] 26) 200) 40 (cln1T.cells id (l, ())) (stE false) (fun x st => frzW st x Q)) =
  ( l.length ≠ (0 : Nat) ∧ (List.flatMap Ec.f l).length = l.length.mul (4 : Nat) ∧ ifp (allScalar (List.flatMap Ec.f l) && true) ((0 : Nat) < Nat.add (0 : Nat)
  l.length ∧ (0 : Nat) = (0 : Nat) ∧ (0 : Nat) = (0 : Nat) ∧ roomy (Nat.add (0 : Nat) l.length) (32 : Nat) = true ∧ Nat.add (0 : Nat) ((Nat.add (0 : Nat)
  l.length).mul (4 : Nat)) ≤ ([] ++ List.flatMap Ec.f l).length ∧ Q (AV.vs (List.take ((Nat.add (0 : Nat) l.length).mul (4 : Nat)) (List.drop (0 : Nat) ([] ++
  List.flatMap Ec.f l))) (Nat.add (0 : Nat) l.length) (Nat.add (0 : Nat) l.length) false none (4 : Nat))) False) := by kernel_rfl

def cln1Pre : (List Cd) × Unit → Prop := fun (l, ()) => 0 < l.length ∧ l.length ≤ 1000000
noncomputable def cln1Res : (List Cd) × Unit → AV := fun (l, ()) => lst Ec l
noncomputable def cln1K : CallC := valC cln1T cln1Pre cln1Res

theorem cln1Val (l : List Cd) (hp : cln1Pre (l, ())) : Val Tryz.prog 40 (cln1T.cells id (l, ())) (cln1Res (l, ())) := by
  refine Val.ofF mixed (KLS_ok (cc_nil)) (freesC rfl _) (cln1Fn l) ?_
  obtain ⟨h0, hl⟩ := hp
  have e0 : Nat.add 0 l.length = l.length := Nat.zero_add _
  refine ⟨by omega, cd_len l, ?_⟩
  rw [ifp_pos (by rw [Enc.fscal Ec]; rfl)]
  simp only [e0]
  refine ⟨h0, (by first | exact trivial | exact rfl), (by first | exact trivial | exact rfl), roomy_small (by omega) (by decide), by show 0 + l.length * 4 ≤ (l.flatMap Ec.f).length; rw [cd_len]; omega, tells_lst ⟨?_, rfl, rfl⟩⟩
  show List.take (l.length * 4) (List.drop 0 (l.flatMap Ec.f)) = _
  rw [List.drop_zero, List.take_of_length_le (by rw [cd_len]; exact Nat.le_refl _)]
theorem cln1Cc : CcOk Tryz.prog 40 cln1K := val_ok rfl (fun ⟨l, _⟩ h => cln1Val l h)

/-! wayfinder/probe.Sorted -/
noncomputable def srt1T : Tel ((List Cd) × Unit) := .cons 0 (.lst Ec) (.nil)

theorem srt1Fn (l : List Cd) (Q : AV → Prop) : (callW Tryz.prog (runW Tryz.prog (KLS [(41, sstabK)] [] 26) 200) 8 (srt1T.cells id (l, ())) (stE false) (fun x st => frzW st x Q)) =
  ( l.length ≠ (0 : Nat) ∧ (List.flatMap Ec.f l).length = l.length.mul (4 : Nat) ∧ ifp (allScalar (List.flatMap Ec.f l) && true) ((0 : Nat) < Nat.add (0 : Nat)
  l.length ∧ (0 : Nat) = (0 : Nat) ∧ (0 : Nat) = (0 : Nat) ∧ roomy (Nat.add (0 : Nat) l.length) (32 : Nat) = true ∧ ∃ (l_1 : List Cd), [] ++ List.flatMap Ec.f l
  = List.flatMap Ec.f l_1 ∧ true = true ∧ sstabPre (((Nat.add (0 : Nat) l.length, Nat.add (0 : Nat) l.length), (), ()), l_1, ()) ∧ (∀ (c : Unit) (d : List Cd ×
  Unit), sstabR0 (((Nat.add (0 : Nat) l.length, Nat.add (0 : Nat) l.length), (), ()), l_1, ()) c d → (0 : Int) ≤ Int.ofNat (Nat.add (0 : Nat) l.length) ∧
  Int.ofNat (Nat.add (0 : Nat) l.length) ≤ ↑(Nat.add (0 : Nat) l.length) ∧ (0 : Int) ≤ Int.ofNat (Nat.add (0 : Nat) l.length) ∧ Int.ofNat (Nat.add (0 : Nat)
  l.length) ≤ ↑(natOf (Int.ofNat (Nat.add (0 : Nat) l.length))) ∧ Nat.add (0 : Nat) (((natOf (Int.ofNat (Nat.add (0 : Nat) l.length))).sub (0 : Nat)).mul (4 :
  Nat)) ≤ (List.flatMap Ec.f d.1).length ∧ Q (AV.vs (List.take (((natOf (Int.ofNat (Nat.add (0 : Nat) l.length))).sub (0 : Nat)).mul (4 : Nat)) (List.drop (0 :
  Nat) (List.flatMap Ec.f d.1))) ((natOf (Int.ofNat (Nat.add (0 : Nat) l.length))).sub (0 : Nat)) ((natOf (Int.ofNat (Nat.add (0 : Nat) l.length))).sub (0 :
  Nat)) (mxEx (some (AV.int IntKind.i64 (Int.ofNat (Nat.add (0 : Nat) l.length)))) false) none (4 : Nat))) ∧ True) False) := by kernel_rfl

def srt1Pre : (List Cd) × Unit → Prop := fun (l, ()) => 0 < l.length ∧ l.length ≤ 1000000
noncomputable def srt1Res : (List Cd) × Unit → AV := fun (l, ()) => lst Ec (sortC l)
noncomputable def srt1K : CallC := valC srt1T srt1Pre srt1Res

theorem srt1Val (l : List Cd) (hp : srt1Pre (l, ())) : Val Tryz.prog 8 (srt1T.cells id (l, ())) (srt1Res (l, ())) := by
  refine Val.ofF mixed (KLS_ok (cc_cons sstabCc (cc_nil))) (freesC rfl _) (srt1Fn l) ?_
  obtain ⟨h0, hl⟩ := hp
  have e0 : Nat.add 0 l.length = l.length := Nat.zero_add _
  have hs : (sortC l).length = l.length := Go.Det.Stab.sort_len l
  refine ⟨by omega, cd_len l, ?_⟩
  rw [ifp_pos (by rw [Enc.fscal Ec]; rfl)]
  simp only [e0]
  refine ⟨h0, (by first | exact trivial | exact rfl), (by first | exact trivial | exact rfl), roomy_small (by omega) (by decide), l, rfl, (by first | exact trivial | exact rfl), ⟨rfl, hl⟩, fun _ d hr => ?_, trivial⟩
  obtain ⟨s, _⟩ := d
  obtain rfl : s = sortC l := hr
  refine ⟨Int.natCast_nonneg _, Int.le_refl _, Int.natCast_nonneg _, Int.le_refl _, by show 0 + l.length * 4 ≤ ((sortC l).flatMap Ec.f).length; rw [cd_len]; omega, tells_lst ⟨?_, by show l.length = _; exact hs.symm, rfl⟩⟩
  show List.take (l.length * 4) (List.drop 0 ((sortC l).flatMap Ec.f)) = _
  rw [List.drop_zero, List.take_of_length_le (by rw [cd_len]; omega)]
theorem srt1Cc : CcOk Tryz.prog 8 srt1K := val_ok rfl (fun ⟨l, _⟩ h => srt1Val l h)

/-- PENDING (the copy of an empty slice that may be nil). -/
theorem cln0Val : Val Tryz.prog 40 (cln1T.cells id ([], ())) (cln1Res ([], ())) := clone_empty (P := Tryz.prog) (ρ := Tryz.clone40_ren) Tryz.clone40 _ _ 4 32 rfl rfl rfl rfl rfl (by decide) Tryz.sizeOf26 (fun _ _ => rfl) 4
theorem clnVal (l : List Cd) (h : l.length ≤ 1000000) : Val Tryz.prog 40 (cln1T.cells id (l, ())) (cln1Res (l, ())) := by
  cases l with
  | nil => exact cln0Val
  | cons a l => exact cln1Val _ ⟨by simp, h⟩
def clnPre : (List Cd) × Unit → Prop := fun (l, ()) => l.length ≤ 1000000
noncomputable def clnK : CallC := valC cln1T clnPre cln1Res
theorem clnCc : CcOk Tryz.prog 40 clnK := val_ok rfl (fun ⟨l, _⟩ h => clnVal l h)

def cln0Pre : Unit × Unit → Prop := fun _ => True
noncomputable def cln0T : Tel (Unit × Unit) := .cons 0 (.con (.vs [] 0 0 false none 4) rfl) .nil
noncomputable def cln0K : CallC := valC cln0T cln0Pre (fun _ => .vs [] 0 0 false none 4)
theorem cln0Cc : CcOk Tryz.prog 40 cln0K := val_ok rfl (fun _ _ => cln0Val)

/-! wayfinder/probe.Sorted -/
noncomputable def srt0T : Tel (Unit × Unit) := .cons 0 (.con (.vs [] 0 0 false none 4) rfl) (.nil)

theorem srt0Fn  (Q : AV → Prop) : (callW Tryz.prog (runW Tryz.prog (KLS [(40, cln0K)] [] 26) 200) 8 (srt0T.cells id ((), ())) (stE false) (fun x st => frzW st x Q)) =
  ( AV.vs [] (0 : Nat) (0 : Nat) false none (4 : Nat) = AV.vs [] (0 : Nat) (0 : Nat) false none (4 : Nat) ∧ cln0Pre ((), ()) ∧ (0 : Int) ≤ Int.ofNat (0 : Nat) ∧
  Int.ofNat (0 : Nat) ≤ ↑(0 : Nat) ∧ (0 : Int) ≤ Int.ofNat (0 : Nat) ∧ Int.ofNat (0 : Nat) ≤ ↑(natOf (Int.ofNat (0 : Nat))) ∧ (0 : Nat) ≤ (0 : Nat) ∧ (0 : Nat) =
  (0 : Nat) ∧ Q (AV.vs [] (0 : Nat) (0 : Nat) (mxEx (some (AV.int IntKind.i64 (Int.ofNat (0 : Nat)))) false) none (4 : Nat))) := by kernel_rfl

def srt0Pre : Unit × Unit → Prop := fun ((), ()) => True
noncomputable def srt0Res : Unit × Unit → AV := fun ((), ()) => lst Ec []
noncomputable def srt0K : CallC := valC srt0T srt0Pre srt0Res

theorem srt0Val  (hp : srt0Pre ((), ())) : Val Tryz.prog 8 (srt0T.cells id ((), ())) (srt0Res ((), ())) := by
  refine Val.ofF mixed (KLS_ok (cc_cons cln0Cc (cc_nil))) (freesC rfl _) (srt0Fn ) ?_
  exact ⟨rfl, trivial, by decide, by decide, by decide, by decide, by decide, rfl, tells_lst (E := Ec) (l := []) ⟨rfl, rfl, rfl⟩⟩
theorem srt0Cc : CcOk Tryz.prog 8 srt0K := val_ok rfl (fun ⟨_, _⟩ h => srt0Val  h)

theorem sortVal (l : List Cd) (h : l.length ≤ 1000000) : Val Tryz.prog 8 (srt1T.cells id (l, ())) (srt1Res (l, ())) := by
  cases l with
  | nil => exact srt0Val trivial
  | cons a l => exact srt1Val _ ⟨by simp, h⟩
def sortPre : (List Cd) × Unit → Prop := fun (l, ()) => l.length ≤ 1000000
noncomputable def sortK : CallC := valC srt1T sortPre srt1Res
theorem sortCc : CcOk Tryz.prog 8 sortK := val_ok rfl (fun ⟨l, _⟩ h => sortVal l h)

end Go.Proofs.YtjckmoikfbcemaaGreat
