/- What the order of the entries answers. -/
import Derived.Test.YtkjdfeomebojfaaRows
import Derived.Test.YtkjdfeomebojfaaDvVal
set_option linter.unusedVariables false
set_option linter.unusedSimpArgs false
namespace Go.Proofs.Ytkjdfeomebojfaa
open Go.Det Go.RowKit

/-! What the entries are, and their order. -/
structure N where
  d : Int
  i : Int
def nA (n : N) : AV := .agg [.int .i64 n.d, .int .i64 n.i]
def iA (n : Int) : AV := .int .i64 n
def bA (b : Bool) : AV := .bool b
def onN (v : AV) (k : N → Option AV) : Option AV :=
  match v with
  | .agg [.int .i64 d, .int .i64 i] => k ⟨d, i⟩
  | _ => none
def onI (v : AV) (k : Int → Option AV) : Option AV :=
  match v with
  | .int .i64 n => k n
  | _ => none
def cmpI (x y : Int) : Int := if x < y then -1 else if x = y then 0 else 1
def ordN (a b : N) : Int := if cmpI a.d b.d = 0 then cmpI a.i b.i else cmpI a.d b.d
def ltN (a b : N) : Bool := decide (a.d < b.d ∨ (a.d = b.d ∧ a.i < b.i))
def FI (k : Int → AV) : List AV → Option AV
  | [v] => onI v fun c => some (k c)
  | _ => none
def FII (k : Int → Int → AV) : List AV → Option AV
  | [u, v] => onI u fun a => onI v fun b => some (k a b)
  | _ => none
def FNN (k : N → N → AV) : List AV → Option AV
  | [u, v] => onN u fun a => onN v fun b => some (k a b)
  | _ => none
noncomputable def ft0 : FT := []
noncomputable def ft1 : FT := [(39, FI fun _ => bA false)]
noncomputable def ft2 : FT := (34, FII fun a b => iA (cmpI a b)) :: ft1
noncomputable def ft3 : FT := (26, FNN fun a b => iA (ordN a b)) :: ft2
noncomputable def ft4 : FT := (10, FNN fun a b => bA (ltN a b)) :: ft3

theorem fm39 (n : Int) (Q : AV → Prop) : (callW Try.prog (runW Try.prog (KE ft0) 200) 39 [iA n] (stE false) fun x _ => Q x) =
  (n = n ∧ Q (AV.bool false)) := by kernel_rfl

theorem fm34 (x y : Int) (Q : AV → Prop) : (callW Try.prog (runW Try.prog (KV ft1) 200) 34 [iA x, iA y] (stE false) fun x _ => Q x) =
  (ifp (!leInt y x) (Q (AV.int IntKind.i64 (-1 : Int)))
    (ifp (!leInt x y) (Q (AV.int IntKind.i64 (1 : Int))) (Q (AV.int IntKind.i64 (0 : Int))))) := by kernel_rfl

theorem fm26 (a b : N) (Q : AV → Prop) : (callW Try.prog (runW Try.prog (KV ft2) 200) 26 [nA a, nA b] (stE false) fun x _ => Q x) =
  (idxOk (0 : Int) (2 : Nat) ∧
    ifp (!eqInt (cmpI a.d b.d) (0 : Int))
      (True ∧
        True ∧
          (AV.int IntKind.i64 a.i = AV.int IntKind.i64 a.i ∧ True) ∧
            (AV.int IntKind.i64 b.i = AV.int IntKind.i64 b.i ∧ True) ∧ Q (AV.int IntKind.i64 (cmpI a.d b.d)))
      (idxOk (wrapF IntKind.i64 (Int.add (0 : Int) (1 : Int))) (2 : Nat) ∧
        ifp (!eqInt (cmpI a.i b.i) (0 : Int))
          (True ∧
            True ∧
              (AV.int IntKind.i64 a.i = AV.int IntKind.i64 a.i ∧ True) ∧
                (AV.int IntKind.i64 b.i = AV.int IntKind.i64 b.i ∧ True) ∧ Q (AV.int IntKind.i64 (cmpI a.i b.i)))
          (True ∧
            True ∧
              (AV.int IntKind.i64 a.i = AV.int IntKind.i64 a.i ∧ True) ∧
                (AV.int IntKind.i64 b.i = AV.int IntKind.i64 b.i ∧ True) ∧ Q (AV.int IntKind.i64 (0 : Int))))) := by kernel_rfl

theorem fm10 (a b : N) (Q : AV → Prop) : (callW Try.prog (runW Try.prog (KV ft3) 200) 10 [nA a, nA b] (stE false) fun x _ => Q x) =
  (ifp (!leInt (0 : Int) (ordN { d := a.d, i := a.i : N } { d := b.d, i := b.i : N })) (Q (AV.bool true))
    (Q (AV.bool false))) := by kernel_rfl

theorem mixed : Try.prog.follows .mixedOrders = true := by kernel_rfl
theorem FI_val {k : Int → AV} {f : FuncId} (h : ∀ n, Val Try.prog f [iA n] (k n)) : ∀ args v, FI k args = some v → Val Try.prog f args v := by
  intro args v hv
  unfold FI onI at hv
  split at hv
  · split at hv
    · injection hv with hv; subst hv; exact h _
    · cases hv
  · cases hv
theorem FII_val {k : Int → Int → AV} {f : FuncId} (h : ∀ a b, Val Try.prog f [iA a, iA b] (k a b)) : ∀ args v, FII k args = some v → Val Try.prog f args v := by
  intro args v hv
  unfold FII onI at hv
  split at hv
  · split at hv
    · split at hv
      · injection hv with hv; subst hv; exact h _ _
      · cases hv
    · cases hv
  · cases hv
theorem FNN_val {k : N → N → AV} {f : FuncId} (h : ∀ a b, Val Try.prog f [nA a, nA b] (k a b)) : ∀ args v, FNN k args = some v → Val Try.prog f args v := by
  intro args v hv
  unfold FNN onN at hv
  split at hv
  · split at hv
    · split at hv
      · injection hv with hv; subst hv; exact h ⟨_, _⟩ ⟨_, _⟩
      · cases hv
    · cases hv
  · cases hv
theorem ok0 : FtOk Try.prog ft0 := .nil
theorem v39 (n : Int) : Val Try.prog 39 [iA n] (bA false) := Val.ofE mixed ok0 rfl rfl rfl (fm39 n) ⟨rfl, rfl⟩
theorem ok1 : FtOk Try.prog ft1 := .cons (FI_val v39) ok0
theorem v34 (x y : Int) : Val Try.prog 34 [iA x, iA y] (iA (cmpI x y)) :=
  Val.of mixed ok1 rfl rfl rfl (fm34 x y) (by
    simp only [ifp_nle]
    unfold cmpI
    repeat' split
    all_goals first
      | exact same_int rfl
      | (exfalso; omega))
theorem ok2 : FtOk Try.prog ft2 := .cons (FII_val v34) ok1
theorem v26 (a b : N) : Val Try.prog 26 [nA a, nA b] (iA (ordN a b)) :=
  Val.of mixed ok2 rfl rfl rfl (fm26 a b) (by
    simp only [ifp_ne, and_self, true_and]
    refine ⟨⟨by omega, by omega⟩, ?_⟩
    unfold ordN
    split
    · refine ⟨by rw [show wrapF .i64 (Int.add 0 1) = 1 by decide]; exact ⟨by omega, by omega⟩, ?_⟩
      split
      · rename_i h; exact same_int h.symm
      · exact same_int rfl
    · exact same_int rfl)
theorem ok3 : FtOk Try.prog ft3 := .cons (FNN_val v26) ok2
theorem ord_lt {a b : N} : ordN a b < 0 ↔ ltN a b = true := by
  unfold ordN ltN cmpI
  rw [decide_eq_true_iff]
  repeat' split
  all_goals omega
theorem v10 (a b : N) : Val Try.prog 10 [nA a, nA b] (bA (ltN a b)) :=
  Val.of mixed ok3 rfl rfl rfl (fm10 a b) (by
    simp only [ifp_nle]
    split
    · rename_i h
      refine same_bool ?_
      cases hh : ltN a b with
      | false => rfl
      | true => have := ord_lt.2 hh; omega
    · rename_i h
      refine same_bool ?_
      exact (ord_lt.1 (by omega)).symm)
theorem ok4 : FtOk Try.prog ft4 := .cons (FNN_val v10) ok3
theorem livesRan : answersTrue ((run Try.prog 1000).call 9 [] st0) = true := by kernel_rfl
theorem v9 : Val Try.prog 9 [] (bA true) := fun st => CallS.closed_ran mixed livesRan st
def F0 (k : AV) : List AV → Option AV
  | [] => some k
  | _ => none
theorem F0_val {k : AV} {f : FuncId} (h : Val Try.prog f [] k) : ∀ args v, F0 k args = some v → Val Try.prog f args v := by
  intro args v hv
  unfold F0 at hv
  split at hv
  · injection hv with hv; subst hv; exact h
  · cases hv
noncomputable def ftA : FT := (9, F0 (bA true)) :: ft4
theorem okA : FtOk Try.prog ftA := .cons (F0_val v9) ok4

end Go.Proofs.Ytkjdfeomebojfaa
