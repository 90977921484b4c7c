/- Forms and contracts, printed by gx.py. -/
import Derived.Test.YteehkdejkemnmabDoorRows
import Derived.Test.YteehkdejkemnmabDoorDvUse
import Derived.Test.YteehkdejkemnmabDoorDvArg
import Derived.ProofKit
import Derived.Test.YteehkdejkemnmabDoorBase
import Derived.Test.YteehkdejkemnmabDoorDvStab2
import Derived.Test.YteehkdejkemnmabDoorDvUse2
import Derived.Test.YteehkdejkemnmabDoorDvSort
namespace Go.Proofs.YteehkdejkemnmabDoor
open Go.Det Go.RowKit
set_option linter.unusedVariables false
set_option linter.unusedSimpArgs false
set_option maxRecDepth 100000
abbrev Cd := Int × Int × Int × Int × Unit
abbrev Ec : Enc Cd := Enc.pair (Enc.int .i64) (Enc.pair (Enc.int .i64) (Enc.pair (Enc.int .i64) (Enc.pair (Enc.int .i64) Enc.unit)))
theorem nth_cd {l : List Cd} {k j : Nat} (h : k < l.length) (hj : j < 4) : nth (Nat.add (Nat.mul k 4) j) (l.flatMap Ec.f) = (Ec.f l[k])[j]? := by rw [nth_eq]; exact enc_get (E := Ec) l k j h hj
theorem nth_cd0 {l : List Cd} {k : Nat} (h : k < l.length) : nth (Nat.add (Nat.mul k 4) 0) (l.flatMap Ec.f) = some (.int .i64 l[k].1) := nth_cd h (by decide)
theorem nth_cd1 {l : List Cd} {k : Nat} (h : k < l.length) : nth (Nat.add (Nat.mul k 4) 1) (l.flatMap Ec.f) = some (.int .i64 l[k].2.1) := nth_cd h (by decide)
theorem nth_cd2 {l : List Cd} {k : Nat} (h : k < l.length) : nth (Nat.add (Nat.mul k 4) 2) (l.flatMap Ec.f) = some (.int .i64 l[k].2.2.1) := nth_cd h (by decide)
theorem nth_cd3 {l : List Cd} {k : Nat} (h : k < l.length) : nth (Nat.add (Nat.mul k 4) 3) (l.flatMap Ec.f) = some (.int .i64 l[k].2.2.2.1) := nth_cd h (by decide)
theorem nth_cdR {l : List Cd} {k j : Nat} (h : k < l.length) (hj : j < 4) : nth (Nat.add (Nat.add 0 (Nat.mul k 4)) j) (l.flatMap Ec.f) = (Ec.f l[k])[j]? := by rw [show Nat.add 0 (Nat.mul k 4) = Nat.mul k 4 from Nat.zero_add _]; exact nth_cd h hj
theorem nth_cdR0 {l : List Cd} {k : Nat} (h : k < l.length) : nth (Nat.add (Nat.add 0 (Nat.mul k 4)) 0) (l.flatMap Ec.f) = some (.int .i64 l[k].1) := nth_cdR h (by decide)
theorem nth_cdR1 {l : List Cd} {k : Nat} (h : k < l.length) : nth (Nat.add (Nat.add 0 (Nat.mul k 4)) 1) (l.flatMap Ec.f) = some (.int .i64 l[k].2.1) := nth_cdR h (by decide)
theorem nth_cdR2 {l : List Cd} {k : Nat} (h : k < l.length) : nth (Nat.add (Nat.add 0 (Nat.mul k 4)) 2) (l.flatMap Ec.f) = some (.int .i64 l[k].2.2.1) := nth_cdR h (by decide)
theorem nth_cdR3 {l : List Cd} {k : Nat} (h : k < l.length) : nth (Nat.add (Nat.add 0 (Nat.mul k 4)) 3) (l.flatMap Ec.f) = some (.int .i64 l[k].2.2.2.1) := nth_cdR h (by decide)
theorem cd_len (l : List Cd) : (l.flatMap Ec.f).length = l.length * 4 := Enc.flen Ec l
theorem cd_set {l : List Cd} {k : Nat} {x : Cd} (h : k < l.length) : setAt (Nat.add 0 (Nat.mul k 4)) [AV.int .i64 x.1, AV.int .i64 x.2.1, AV.int .i64 x.2.2.1, AV.int .i64 x.2.2.2.1] (l.flatMap Ec.f) = (l.set k x).flatMap Ec.f := by
  rw [show Nat.add 0 (Nat.mul k 4) = k * 4 from Nat.zero_add _]; exact enc_set (E := Ec) h
theorem cd_fit {l : List Cd} {k n : Nat} (h : k < n) (hn : l.length = n) : (Nat.add 0 (Nat.mul k 4)).add 4 ≤ (l.flatMap Ec.f).length := by
  rw [cd_len, show Nat.add 0 (Nat.mul k 4) = k * 4 from Nat.zero_add _]; show k * 4 + 4 ≤ _; omega
theorem cd_sw {l : List Cd} {i j : Nat} (hi : i < l.length) (hj : j < l.length) : setAt (Nat.add 0 (Nat.mul j 4)) [AV.int .i64 l[i].1, AV.int .i64 l[i].2.1, AV.int .i64 l[i].2.2.1, AV.int .i64 l[i].2.2.2.1] (setAt (Nat.add 0 (Nat.mul i 4)) [AV.int .i64 l[j].1, AV.int .i64 l[j].2.1, AV.int .i64 l[j].2.2.1, AV.int .i64 l[j].2.2.2.1] (l.flatMap Ec.f)) = (Go.Det.Stab.sw l i j).flatMap Ec.f := by
  rw [cd_set hi, cd_set (x := l[i]) (by simpa using hj), Go.Det.Stab.sw_eq hi hj]

def cmpV (a b : Int) : Int := if a < b then -1 else if b < a then 1 else 0

/-! cmp.Compare[int64] -/
noncomputable def cmpT : Tel (Int × Int × Unit) := .cons 0 (.int .i64) (.cons 1 (.int .i64) (.nil))

theorem cmpFn (a : Int) (b : Int) (Q : AV → Prop) : (callW Tryd.prog (runW Tryd.prog (KL [] []) 200) 20 (cmpT.cells id (a, (b, ()))) (stE false) (fun x st => frzW st x Q)) =
  ( ifp (!eqInt a a) (ifp (!eqInt b b) (Q (AV.int IntKind.i64 (0 : Int))) (Q (AV.int IntKind.i64 (-1 : Int)))) (ifp (!eqInt b b) (Q (AV.int IntKind.i64 (1 : Int)))
  (ifp (!leInt b a) (Q (AV.int IntKind.i64 (-1 : Int))) (ifp (!leInt a b) (Q (AV.int IntKind.i64 (1 : Int))) (Q (AV.int IntKind.i64 (0 : Int))))))) := by kernel_rfl

def cmpPre : Int × Int × Unit → Prop := fun (a, (b, ())) => True
noncomputable def cmpRes : Int × Int × Unit → AV := fun (a, (b, ())) => .int .i64 (cmpV a b)
noncomputable def cmpK : CallC := valC cmpT cmpPre cmpRes

theorem cmpVal (a : Int) (b : Int) (hp : cmpPre (a, (b, ()))) : Val Tryd.prog 20 (cmpT.cells id (a, (b, ()))) (cmpRes (a, (b, ()))) := by
  refine Val.ofF mixed (KL_ok (cc_nil)) (freesC rfl _) (cmpFn a b) ?_
  rw [ifp_ne, if_pos rfl, ifp_ne, if_pos rfl, ifp_lt]
  split
  · rename_i h; exact tells_int (by rw [cmpV, if_pos h])
  · rename_i h
    rw [ifp_lt]
    split
    · rename_i h2; exact tells_int (by rw [cmpV, if_neg h, if_pos h2])
    · rename_i h2; exact tells_int (by rw [cmpV, if_neg h, if_neg h2])
theorem cmpCc : CcOk Tryd.prog 20 cmpK := val_ok rfl (fun ⟨a, ⟨b, _⟩⟩ h => cmpVal a b h)

noncomputable def lowV (a : Cd) : Int := wrapF .i64 (Int.sub a.2.1 a.2.2.1)

/-! wayfinder/rerank.low -/
noncomputable def lowT : Tel (Cd × Unit) := .cons 0 (.agg Ec) (.nil)

theorem lowFn (a : Cd) (Q : AV → Prop) : (callW Tryd.prog (runW Tryd.prog (KL [] []) 200) 21 (lowT.cells id (a, ())) (stE false) (fun x st => frzW st x Q)) =
  ( Q (AV.int IntKind.i64 (wrapF IntKind.i64 (a.snd.fst.sub a.snd.snd.fst)))) := by kernel_rfl

def lowPre : Cd × Unit → Prop := fun (a, ()) => True
noncomputable def lowRes : Cd × Unit → AV := fun (a, ()) => .int .i64 (lowV a)
noncomputable def lowK : CallC := valC lowT lowPre lowRes

theorem lowVal (a : Cd) (hp : lowPre (a, ())) : Val Tryd.prog 21 (lowT.cells id (a, ())) (lowRes (a, ())) := by
  refine Val.ofF mixed (KL_ok (cc_nil)) (freesC rfl _) (lowFn a) ?_
  exact tells_int rfl
theorem lowCc : CcOk Tryd.prog 21 lowK := val_ok rfl (fun ⟨a, _⟩ h => lowVal a h)

noncomputable def cmpcV (a b : Cd) : Int := if cmpV (lowV a) (lowV b) ≠ 0 then cmpV (lowV a) (lowV b) else cmpV a.1 b.1

/-! wayfinder/rerank.Order$1 -/
noncomputable def cmpcT : Tel (Cd × Cd × Unit) := .cons 0 (.agg Ec) (.cons 1 (.agg Ec) (.nil))

theorem cmpcFn (a : Cd) (b : Cd) (Q : AV → Prop) : (callW Tryd.prog (runW Tryd.prog (KL [(20, cmpK), (21, lowK)] []) 200) 18 (cmpcT.cells id (a, (b, ()))) (stE false) (fun x st => frzW st x Q)) =
  ( ∃ (a_1 : Cd), AV.agg [AV.int IntKind.i64 a.fst, AV.int IntKind.i64 a.snd.fst, AV.int IntKind.i64 a.snd.snd.fst, AV.int IntKind.i64 a.snd.snd.snd.fst] = AV.agg
  [AV.int IntKind.i64 a_1.fst, AV.int IntKind.i64 a_1.snd.fst, AV.int IntKind.i64 a_1.snd.snd.fst, AV.int IntKind.i64 a_1.snd.snd.snd.fst] ∧ lowPre (a_1, ()) ∧ ∃
  (a_2 : Cd), AV.agg [AV.int IntKind.i64 b.fst, AV.int IntKind.i64 b.snd.fst, AV.int IntKind.i64 b.snd.snd.fst, AV.int IntKind.i64 b.snd.snd.snd.fst] = AV.agg
  [AV.int IntKind.i64 a_2.fst, AV.int IntKind.i64 a_2.snd.fst, AV.int IntKind.i64 a_2.snd.snd.fst, AV.int IntKind.i64 a_2.snd.snd.snd.fst] ∧ lowPre (a_2, ()) ∧
  cmpPre (lowV a_1, lowV a_2, ()) ∧ cmpPre (a.fst, b.fst, ()) ∧ idxOk (0 : Int) (2 : Nat) ∧ ifp (!eqInt (cmpV (lowV a_1) (lowV a_2)) (0 : Int)) (True ∧ (AV.agg
  [AV.int IntKind.i64 b.fst, AV.int IntKind.i64 b.snd.fst, AV.int IntKind.i64 b.snd.snd.fst, AV.int IntKind.i64 b.snd.snd.snd.fst] = AV.agg [AV.int IntKind.i64
  b.fst, AV.int IntKind.i64 b.snd.fst, AV.int IntKind.i64 b.snd.snd.fst, AV.int IntKind.i64 b.snd.snd.snd.fst] ∧ True) ∧ (AV.int IntKind.i64 a.fst = AV.int
  IntKind.i64 a.fst ∧ AV.int IntKind.i64 a.fst = AV.int IntKind.i64 a.fst ∧ AV.int IntKind.i64 a.fst = AV.int IntKind.i64 a.fst ∧ True) ∧ (AV.int IntKind.i64
  b.fst = AV.int IntKind.i64 b.fst ∧ AV.int IntKind.i64 b.fst = AV.int IntKind.i64 b.fst ∧ AV.int IntKind.i64 b.fst = AV.int IntKind.i64 b.fst ∧ True) ∧ Q
  (AV.int IntKind.i64 (cmpV (lowV a_1) (lowV a_2)))) (idxOk (wrapF IntKind.i64 (Int.add (0 : Int) (1 : Int))) (2 : Nat) ∧ ifp (!eqInt (cmpV a.fst b.fst) (0 :
  Int)) (True ∧ (AV.agg [AV.int IntKind.i64 b.fst, AV.int IntKind.i64 b.snd.fst, AV.int IntKind.i64 b.snd.snd.fst, AV.int IntKind.i64 b.snd.snd.snd.fst] = AV.agg
  [AV.int IntKind.i64 b.fst, AV.int IntKind.i64 b.snd.fst, AV.int IntKind.i64 b.snd.snd.fst, AV.int IntKind.i64 b.snd.snd.snd.fst] ∧ True) ∧ (AV.int IntKind.i64
  a.fst = AV.int IntKind.i64 a.fst ∧ AV.int IntKind.i64 a.fst = AV.int IntKind.i64 a.fst ∧ AV.int IntKind.i64 a.fst = AV.int IntKind.i64 a.fst ∧ True) ∧ (AV.int
  IntKind.i64 b.fst = AV.int IntKind.i64 b.fst ∧ AV.int IntKind.i64 b.fst = AV.int IntKind.i64 b.fst ∧ AV.int IntKind.i64 b.fst = AV.int IntKind.i64 b.fst ∧
  True) ∧ Q (AV.int IntKind.i64 (cmpV a.fst b.fst))) (True ∧ (AV.agg [AV.int IntKind.i64 b.fst, AV.int IntKind.i64 b.snd.fst, AV.int IntKind.i64 b.snd.snd.fst,
  AV.int IntKind.i64 b.snd.snd.snd.fst] = AV.agg [AV.int IntKind.i64 b.fst, AV.int IntKind.i64 b.snd.fst, AV.int IntKind.i64 b.snd.snd.fst, AV.int IntKind.i64
  b.snd.snd.snd.fst] ∧ True) ∧ (AV.int IntKind.i64 a.fst = AV.int IntKind.i64 a.fst ∧ AV.int IntKind.i64 a.fst = AV.int IntKind.i64 a.fst ∧ AV.int IntKind.i64
  a.fst = AV.int IntKind.i64 a.fst ∧ True) ∧ (AV.int IntKind.i64 b.fst = AV.int IntKind.i64 b.fst ∧ AV.int IntKind.i64 b.fst = AV.int IntKind.i64 b.fst ∧ AV.int
  IntKind.i64 b.fst = AV.int IntKind.i64 b.fst ∧ True) ∧ Q (AV.int IntKind.i64 (0 : Int))))) := by kernel_rfl

def cmpcPre : Cd × Cd × Unit → Prop := fun (a, (b, ())) => True
noncomputable def cmpcRes : Cd × Cd × Unit → AV := fun (a, (b, ())) => .int .i64 (cmpcV a b)
noncomputable def cmpcK : CallC := valC cmpcT cmpcPre cmpcRes

theorem cmpcVal (a : Cd) (b : Cd) (hp : cmpcPre (a, (b, ()))) : Val Tryd.prog 18 (cmpcT.cells id (a, (b, ()))) (cmpcRes (a, (b, ()))) := by
  refine Val.ofF mixed (KL_ok (cc_cons cmpCc (cc_cons lowCc (cc_nil)))) (freesC rfl _) (cmpcFn a b) ?_
  refine ⟨a, rfl, trivial, b, rfl, trivial, trivial, trivial, idx_ok0 (by decide), ?_⟩
  rw [ifp_ne]
  split
  · rename_i h
    refine ⟨⟨by decide, by decide⟩, ?_⟩
    rw [ifp_ne]
    split
    · rename_i h2
      exact ⟨trivial, ⟨(by first | exact trivial | exact rfl), trivial⟩, ⟨(by first | exact trivial | exact rfl), (by first | exact trivial | exact rfl), (by first | exact trivial | exact rfl), trivial⟩, ⟨(by first | exact trivial | exact rfl), (by first | exact trivial | exact rfl), (by first | exact trivial | exact rfl), trivial⟩, tells_int (by rw [cmpcV, if_neg (by omega), h2])⟩
    · exact ⟨trivial, ⟨(by first | exact trivial | exact rfl), trivial⟩, ⟨(by first | exact trivial | exact rfl), (by first | exact trivial | exact rfl), (by first | exact trivial | exact rfl), trivial⟩, ⟨(by first | exact trivial | exact rfl), (by first | exact trivial | exact rfl), (by first | exact trivial | exact rfl), trivial⟩, tells_int (by rw [cmpcV, if_neg (by omega)])⟩
  · rename_i h
    exact ⟨trivial, ⟨(by first | exact trivial | exact rfl), trivial⟩, ⟨(by first | exact trivial | exact rfl), (by first | exact trivial | exact rfl), (by first | exact trivial | exact rfl), trivial⟩, ⟨(by first | exact trivial | exact rfl), (by first | exact trivial | exact rfl), (by first | exact trivial | exact rfl), trivial⟩, tells_int (by rw [cmpcV, if_pos h])⟩
theorem cmpcCc : CcOk Tryd.prog 18 cmpcK := val_ok rfl (fun ⟨a, ⟨b, _⟩⟩ h => cmpcVal a b h)

noncomputable def ltC (a b : Cd) : Bool := decide (cmpcV a b < 0)
theorem cmpcV_lt {a b : Cd} : cmpcV a b < 0 ↔ lowV a < lowV b ∨ lowV a = lowV b ∧ a.1 < b.1 := by
  unfold cmpcV cmpV; split <;> (repeat' split) <;> omega
theorem ltC_iff {a b : Cd} : ltC a b = true ↔ lowV a < lowV b ∨ lowV a = lowV b ∧ a.1 < b.1 := by rw [ltC, decide_eq_true_iff, cmpcV_lt]
theorem weakC : Go.Det.Stab.Weak ltC where
  irr a := by rw [← Bool.not_eq_true, ltC_iff]; omega
  tr a b c h1 h2 := by rw [ltC_iff] at *; omega
  ntr a b c h1 h2 := by rw [← Bool.not_eq_true, ltC_iff] at *; omega

end Go.Proofs.YteehkdejkemnmabDoor
