/- Forms and contracts, printed by gx.py. -/
import Derived.Test.YteehkdejkemnmabDoorRows
import Derived.Test.YteehkdejkemnmabDoorDvUse
import Derived.Test.YteehkdejkemnmabDoorDvArg
import Derived.ProofKit
import Derived.Test.YteehkdejkemnmabDoorBase
import Derived.Test.YteehkdejkemnmabDoorDvStab2
import Derived.Test.YteehkdejkemnmabDoorDvUse2
import Derived.Test.YteehkdejkemnmabDoorDvSort
import Derived.Test.YteehkdejkemnmabDoorOrdR
import Derived.Test.YteehkdejkemnmabDoorStR
import Derived.Test.YteehkdejkemnmabDoorStS
import Derived.Test.YteehkdejkemnmabDoorDvClone
import Derived.Test.YteehkdejkemnmabDoorClone
import Derived.Test.YteehkdejkemnmabDoorReO
namespace Go.Proofs.YteehkdejkemnmabDoor
open Go.Det Go.RowKit
set_option linter.unusedVariables false
set_option linter.unusedSimpArgs false
set_option maxRecDepth 100000
abbrev Near := Int × Int × Unit
abbrev En : Enc Near := Enc.pair (Enc.int .i64) (Enc.pair (Enc.int .i64) Enc.unit)
abbrev Exa := List Near × List Near × Unit
abbrev Ex : Enc Exa := Enc.pair (Enc.list En) (Enc.pair (Enc.list En) Enc.unit)
/-- Whether a trace follows an order of reading from place i on. -/
noncomputable def leanF (k : Int) : Int → List Cd → List Near → Bool
  | _, _, [] => true
  | _, [], _ :: _ => false
  | i, o :: os, r :: rs => decide (r.1 = o.1) && (if i < k then decide (r.2.1 = -1) else decide (lowV o ≤ r.2.1)) && leanF k (i + 1) os rs
noncomputable def leanV (l : List Cd) (rs : List Near) (k : Int) : Bool := l.all mayC && decide (rs.length ≤ (ordC l).length) && leanF k 0 (ordC l) rs
theorem nth_nr {l : List Near} {k j : Nat} (h : k < l.length) (hj : j < 2) : nth (Nat.add (Nat.mul k 2) j) (l.flatMap En.f) = (En.f l[k])[j]? := by rw [nth_eq]; exact enc_get (E := En) l k j h hj
theorem nth_nr0 {l : List Near} {k : Nat} (h : k < l.length) : nth (Nat.add (Nat.mul k 2) 0) (l.flatMap En.f) = some (.int .i64 l[k].1) := nth_nr h (by decide)
theorem nth_nr1 {l : List Near} {k : Nat} (h : k < l.length) : nth (Nat.add (Nat.mul k 2) 1) (l.flatMap En.f) = some (.int .i64 l[k].2.1) := nth_nr h (by decide)
theorem leanF_step {k i : Int} {os : List Cd} {rs : List Near} {q : Nat} (ho : q < os.length) (hr : q < rs.length) :
    leanF k i (os.drop q) (rs.drop q) = (decide (rs[q].1 = os[q].1) && (if i < k then decide (rs[q].2.1 = -1) else decide (lowV os[q] ≤ rs[q].2.1)) && leanF k (i + 1) (os.drop (q + 1)) (rs.drop (q + 1))) := by
  rw [drop_get ho, drop_get hr]; rfl

/-! The loop leanL of wayfinder/rerank.Lean. -/
abbrev leanLZ := (Int × (List Cd) × (List Near) × Int × Int × Unit) × (Unit)
noncomputable def leanLSl : Tel (Int × (List Cd) × (List Near) × Int × Int × Unit) := .cons 2 (.int .i64) (.cons 7 (.lst Ec) (.cons 24 (.lst En) (.cons 25 (.int .i64) (.cons 26 (.int .i64) (.nil)))))
noncomputable def leanLBl : BTel (Unit) := .nil
noncomputable def leanLFs : List (LForm leanLZ) := [⟨_, _, leanLSl, leanLBl, fun x y => (x, y)⟩]
noncomputable def leanLAlts (R0 : leanLZ → (Unit) → (Unit) → Prop) (R1 : leanLZ → (Bool × Unit) → (Unit) → Prop) : List (Alt leanLZ) := [⟨.exit 0, Unit, Unit, .nil, .nil, R0⟩, ⟨.ret, Bool × Unit, Unit, .cons 6 (.bool) (.nil), .nil, R1⟩]

theorem leanLForm (k : Int) (o : List Cd) (rs : List Near) (n : Int) (i : Int) (N : leanLZ → Prop) (R0 : leanLZ → (Unit) → (Unit) → Prop) (R1 : leanLZ → (Bool × Unit) → (Unit) → Prop) : ((runW Tryd.prog (KL [(21, lowK)] []) 100).code none 9 65 (loopBody Tryd.prog 9 5) (mkT (leanLSl.av id (k, (o, (rs, (n, (i, ()))))))) [] (stL false (leanLBl.obs id ())) (postL 0 leanLFs (leanLAlts R0 R1) ((k, (o, (rs, (n, (i, ()))))), ()) N)) =
  ( ifp (!leInt n i) (idxOk i rs.length ∧ ∃ (x : Int), nth (((natOf i).mul (2 : Nat)).add (0 : Nat)) (List.flatMap En.f rs) = some (AV.int IntKind.i64 x) ∧ ∃ (x_1 :
  Int), nth (((natOf i).mul (2 : Nat)).add (1 : Nat)) (List.flatMap En.f rs) = some (AV.int IntKind.i64 x_1) ∧ idxOk i o.length ∧ ∃ (x_2 : Int), nth (((natOf
  i).mul (4 : Nat)).add (0 : Nat)) (List.flatMap Ec.f o) = some (AV.int IntKind.i64 x_2) ∧ ifp (!eqInt x x_2) (True ∧ True ∧ True ∧ true = true ∧ R1 ((k, o, rs,
  n, i, ()), ()) (false, ()) ()) (ifp (!leInt k i) (ifp (!eqInt x_1 (-1 : Int)) (True ∧ True ∧ True ∧ True ∧ true = true ∧ R1 ((k, o, rs, n, i, ()), ()) (false,
  ()) ()) (ifp (leInt k i) (idxOk i o.length ∧ ∃ (x : Int), nth (((natOf i).mul (4 : Nat)).add (0 : Nat)) (List.flatMap Ec.f o) = some (AV.int IntKind.i64 x) ∧ ∃
  (x_3 : Int), nth (((natOf i).mul (4 : Nat)).add (1 : Nat)) (List.flatMap Ec.f o) = some (AV.int IntKind.i64 x_3) ∧ ∃ (x_4 : Int), nth (((natOf i).mul (4 :
  Nat)).add (2 : Nat)) (List.flatMap Ec.f o) = some (AV.int IntKind.i64 x_4) ∧ ∃ (x_5 : Int), nth (((natOf i).mul (4 : Nat)).add (3 : Nat)) (List.flatMap Ec.f o)
  = some (AV.int IntKind.i64 x_5) ∧ ∃ (a : Cd), AV.agg [AV.int IntKind.i64 x, AV.int IntKind.i64 x_3, AV.int IntKind.i64 x_4, AV.int IntKind.i64 x_5] = AV.agg
  [AV.int IntKind.i64 a.fst, AV.int IntKind.i64 a.snd.fst, AV.int IntKind.i64 a.snd.snd.fst, AV.int IntKind.i64 a.snd.snd.snd.fst] ∧ lowPre (a, ()) ∧ ifp (!leInt
  (lowV a) x_1) (True ∧ True ∧ True ∧ True ∧ (AV.int IntKind.i64 x_1 = AV.int IntKind.i64 x_1 ∧ True) ∧ True ∧ true = true ∧ R1 ((k, o, rs, n, i, ()), ())
  (false, ()) ()) (True ∧ True ∧ True ∧ True ∧ (AV.int IntKind.i64 x_1 = AV.int IntKind.i64 x_1 ∧ True) ∧ True ∧ ∃ (l : List Cd), Wk (AV.vs (List.flatMap Ec.f o)
  o.length o.length false none (4 : Nat)) (lst Ec l) ∧ ∃ (l_1 : List Near), Wk (AV.vs (List.flatMap En.f rs) rs.length rs.length false none (2 : Nat)) (lst En
  l_1) ∧ true = true ∧ N ((k, l, l_1, n, wrapF IntKind.i64 (i.add (1 : Int)), ()), ()))) (True ∧ True ∧ True ∧ True ∧ ∃ (l : List Cd), Wk (AV.vs (List.flatMap
  Ec.f o) o.length o.length false none (4 : Nat)) (lst Ec l) ∧ ∃ (l_1 : List Near), Wk (AV.vs (List.flatMap En.f rs) rs.length rs.length false none (2 : Nat))
  (lst En l_1) ∧ true = true ∧ N ((k, l, l_1, n, wrapF IntKind.i64 (i.add (1 : Int)), ()), ())))) (ifp (leInt k i) (idxOk i o.length ∧ ∃ (x : Int), nth (((natOf
  i).mul (4 : Nat)).add (0 : Nat)) (List.flatMap Ec.f o) = some (AV.int IntKind.i64 x) ∧ ∃ (x_3 : Int), nth (((natOf i).mul (4 : Nat)).add (1 : Nat))
  (List.flatMap Ec.f o) = some (AV.int IntKind.i64 x_3) ∧ ∃ (x_4 : Int), nth (((natOf i).mul (4 : Nat)).add (2 : Nat)) (List.flatMap Ec.f o) = some (AV.int
  IntKind.i64 x_4) ∧ ∃ (x_5 : Int), nth (((natOf i).mul (4 : Nat)).add (3 : Nat)) (List.flatMap Ec.f o) = some (AV.int IntKind.i64 x_5) ∧ ∃ (a : Cd), AV.agg
  [AV.int IntKind.i64 x, AV.int IntKind.i64 x_3, AV.int IntKind.i64 x_4, AV.int IntKind.i64 x_5] = AV.agg [AV.int IntKind.i64 a.fst, AV.int IntKind.i64
  a.snd.fst, AV.int IntKind.i64 a.snd.snd.fst, AV.int IntKind.i64 a.snd.snd.snd.fst] ∧ lowPre (a, ()) ∧ ifp (!leInt (lowV a) x_1) (True ∧ True ∧ True ∧ (AV.int
  IntKind.i64 x_1 = AV.int IntKind.i64 x_1 ∧ True) ∧ True ∧ true = true ∧ R1 ((k, o, rs, n, i, ()), ()) (false, ()) ()) (True ∧ True ∧ True ∧ (AV.int IntKind.i64
  x_1 = AV.int IntKind.i64 x_1 ∧ True) ∧ True ∧ ∃ (l : List Cd), Wk (AV.vs (List.flatMap Ec.f o) o.length o.length false none (4 : Nat)) (lst Ec l) ∧ ∃ (l_1 :
  List Near), Wk (AV.vs (List.flatMap En.f rs) rs.length rs.length false none (2 : Nat)) (lst En l_1) ∧ true = true ∧ N ((k, l, l_1, n, wrapF IntKind.i64 (i.add
  (1 : Int)), ()), ()))) (True ∧ True ∧ True ∧ ∃ (l : List Cd), Wk (AV.vs (List.flatMap Ec.f o) o.length o.length false none (4 : Nat)) (lst Ec l) ∧ ∃ (l_1 :
  List Near), Wk (AV.vs (List.flatMap En.f rs) rs.length rs.length false none (2 : Nat)) (lst En l_1) ∧ true = true ∧ N ((k, l, l_1, n, wrapF IntKind.i64 (i.add
  (1 : Int)), ()), ()))))) (True ∧ true = true ∧ R0 ((k, o, rs, n, i, ()), ()) () ())) := by kernel_rfl

def leanLInv : leanLZ → Prop := fun ((k, (o, (rs, (n, (i, ()))))), ()) => ∃ q : Nat, i = q ∧ n = rs.length ∧ q ≤ rs.length ∧ rs.length ≤ o.length ∧ o.length ≤ 1000000 ∧ leanF k 0 o rs = leanF k q (o.drop q) (rs.drop q)
def leanLMu : leanLZ → Nat := fun ((k, (o, (rs, (n, (i, ()))))), ()) => rs.length - i.toNat
def leanLR0 : leanLZ → (Unit) → (Unit) → Prop := fun ((k, (o, (rs, (n, (i, ()))))), ()) _ _ => leanF k 0 o rs = true
def leanLR1 : leanLZ → (Bool × Unit) → (Unit) → Prop := fun ((k, (o, (rs, (n, (i, ()))))), ()) (q, _) _ => q = false ∧ leanF k 0 o rs = false
noncomputable def leanLC : LoopC := loopC 0 leanLFs (leanLAlts leanLR0 leanLR1) leanLInv

theorem leanLStep : stepsOk Tryd.prog (KL [(21, lowK)] []) 100 9 65 (loopBody Tryd.prog 9 5) 0 false leanLFs (leanLAlts leanLR0 leanLR1) leanLInv leanLMu ⟨_, _, leanLSl, leanLBl, fun x y => (x, y)⟩ := by
  intro x y hz
  obtain ⟨k, o, rs, n, i, _⟩ := x
  obtain _ := y
  refine (leanLForm k o rs n i _ _ _).mpr ?_
  obtain ⟨q, rfl, rfl, hq, hro, hol, hF⟩ := hz
  rw [ifp_lt]
  simp only [natOf_nat]
  split
  · rename_i h
    have hqr : q < rs.length := by simpa using h
    have hqo : q < o.length := by omega
    have hs := leanF_step (k := k) (i := (q : Int)) hqo hqr
    have no : (decide (rs[q].1 = o[q].1) && (if (q : Int) < k then decide (rs[q].2.1 = -1) else decide (lowV o[q] ≤ rs[q].2.1))) = false → leanF k 0 o rs = false := fun c => by rw [hF, hs, c]; rfl
    have yes : (decide (rs[q].1 = o[q].1) && (if (q : Int) < k then decide (rs[q].2.1 = -1) else decide (lowV o[q] ≤ rs[q].2.1))) = true → leanF k 0 o rs = leanF k ((q + 1 : Nat) : Int) (o.drop (q + 1)) (rs.drop (q + 1)) := fun c => by rw [hF, hs, c]; rfl
    refine ⟨idx_ok hqr, _, nth_nr0 hqr, _, nth_nr1 hqr, idx_ok hqo, _, nth_cd0 hqo, ?_⟩
    rw [ifp_ne]
    split
    · rename_i e1
      rw [ifp_lt]
      split
      · rename_i e2
        rw [ifp_ne]
        split
        · rename_i e3
          rw [ifp_le, if_neg (by omega)]
          refine ⟨trivial, trivial, trivial, trivial, o, Wk.refl _, rs, Wk.refl _, (by first | exact trivial | exact rfl), ?_⟩
          rw [wsucc (by omega)]
          exact ⟨⟨q + 1, rfl, rfl, hqr, hro, hol, yes (by simp [e1, e2, e3])⟩, by show rs.length - (q + 1) < rs.length - q; omega, fun _ _ h => h, fun _ _ h => h, trivial⟩
        · rename_i e3
          exact ⟨trivial, trivial, trivial, trivial, (by first | exact trivial | exact rfl), rfl, no (by simp [e1, e2, e3])⟩
      · rename_i e2
        rw [ifp_le, if_pos (by omega)]
        refine ⟨idx_ok hqo, _, nth_cd0 hqo, _, nth_cd1 hqo, _, nth_cd2 hqo, _, nth_cd3 hqo, o[q], rfl, trivial, ?_⟩
        rw [ifp_lt]
        split
        · rename_i e3
          exact ⟨trivial, trivial, trivial, ⟨(by first | exact trivial | exact rfl), trivial⟩, trivial, (by first | exact trivial | exact rfl), rfl, no (by simp [e1, e2]; omega)⟩
        · rename_i e3
          refine ⟨trivial, trivial, trivial, ⟨(by first | exact trivial | exact rfl), trivial⟩, trivial, o, Wk.refl _, rs, Wk.refl _, (by first | exact trivial | exact rfl), ?_⟩
          rw [wsucc (by omega)]
          exact ⟨⟨q + 1, rfl, rfl, hqr, hro, hol, yes (by simp [e1, e2]; omega)⟩, by show rs.length - (q + 1) < rs.length - q; omega, fun _ _ h => h, fun _ _ h => h, trivial⟩
    · rename_i e1
      exact ⟨trivial, trivial, trivial, (by first | exact trivial | exact rfl), rfl, no (by simp [e1])⟩
  · rename_i h
    have hqr : ¬ q < rs.length := by simpa using h
    refine ⟨trivial, (by first | exact trivial | exact rfl), ?_⟩
    show leanF k 0 o rs = true
    rw [hF, List.drop_of_length_le (by omega : rs.length ≤ q)]
    cases o.drop q <;> rfl
theorem leanLOk : LoopOk Tryd.prog 9 65 (.loop (loopBody Tryd.prog 9 5)) (leanLC) := loop_ok leanLMu  mixed (KL_ok (cc_cons lowCc (cc_nil))) rfl (steps_cons leanLStep (steps_nil))

/-! wayfinder/rerank.Lean -/
noncomputable def leanT : Tel ((List Cd) × Exa × Int × Unit) := .cons 0 (.lst Ec) (.cons 1 (.aggW Ex) (.cons 2 (.int .i64) (.nil)))

theorem leanFn (l : List Cd) (e : Exa) (k : Int) (Q : AV → Prop) : (callW Tryd.prog (runW Tryd.prog (KL [(5, ordK), (15, mayK), (21, lowK)] [(9, [(5, leanLC)])]) 200) 9 (leanT.cells id (l, (e, (k, ())))) (stE false) (fun x st => frzW st x Q)) =
  ( ∃ (l_1 : List Cd), Wk (AV.vs (List.flatMap Ec.f l) l.length l.length false none (4 : Nat)) (lst Ec l_1) ∧ ordPre (l_1, ()) ∧ ∃ (l_2 : List Cd), Wk (AV.vs
  (List.flatMap Ec.f l) l.length l.length false none (4 : Nat)) (lst Ec l_2) ∧ mayPre (l_2, ()) ∧ ifp (l_2.all mayC) (ifp (!leInt (Int.ofNat e.snd.fst.length)
  (Int.ofNat (ordC l_1).length)) (Q (AV.bool false)) (LoopOk Tryd.prog (9 : FuncId) (65 : Nat) (loopBody Tryd.prog (9 : FuncId) (5 : Nat)).loop leanLC ∧ True ∧
  True ∧ ∃ (l : List Cd), Wk (AV.vs (List.flatMap Ec.f (ordC l_1)) (ordC l_1).length (ordC l_1).length false none (4 : Nat)) (lst Ec l) ∧ ∃ (l_3 : List Near), Wk
  (AV.vs (List.flatMap En.f e.snd.fst) e.snd.fst.length e.snd.fst.length false none (2 : Nat)) (lst En l_3) ∧ true = true ∧ leanLInv ((k, l, l_3, Int.ofNat
  e.snd.fst.length, (0 : Int), ()), ()) ∧ (∀ (c d : Unit), leanLR0 ((k, l, l_3, Int.ofNat e.snd.fst.length, (0 : Int), ()), ()) c d → Q (AV.bool true)) ∧ (∀ (c :
  Bool × Unit) (d : Unit), leanLR1 ((k, l, l_3, Int.ofNat e.snd.fst.length, (0 : Int), ()), ()) c d → Q (AV.bool c.1)) ∧ True)) (Q (AV.bool false))) := by kernel_rfl

def leanPre : (List Cd) × Exa × Int × Unit → Prop := fun (l, (e, (k, ()))) => l.length ≤ 1000000
noncomputable def leanRes : (List Cd) × Exa × Int × Unit → AV := fun (l, (e, (k, ()))) => .bool (leanV l e.2.1 k)
noncomputable def leanK : CallC := valC leanT leanPre leanRes

theorem leanVal (l : List Cd) (e : Exa) (k : Int) (hp : leanPre (l, (e, (k, ())))) : Val Tryd.prog 9 (leanT.cells id (l, (e, (k, ())))) (leanRes (l, (e, (k, ())))) := by
  refine Val.ofF mixed (KL_ok (cc_cons ordCc (cc_cons mayCc (cc_cons lowCc (cc_nil))))) (freesC rfl _) (leanFn l e k) ?_
  have hl : l.length ≤ 1000000 := hp
  refine ⟨l, Wk.refl _, hl, l, Wk.refl _, by show l.length < _; omega, ?_⟩
  cases hm : l.all mayC with
  | false => rw [ifp_neg rfl]; exact tells_bool (by rw [leanV, hm]; rfl)
  | true =>
    rw [ifp_pos rfl, ifp_lt]
    have ho : (ordC l).length ≤ 1000000 := by rw [ordC, if_pos hm, sortR, Go.Det.Stab.sort_len]; exact hl
    split
    · rename_i h
      exact tells_bool (by rw [leanV, hm, decide_eq_false (by simp only [Int.ofNat_eq_natCast] at h; omega)]; rfl)
    · rename_i h
      have hle : e.2.1.length ≤ (ordC l).length := by simp only [Int.ofNat_eq_natCast] at h; omega
      refine ⟨leanLOk, trivial, trivial, ordC l, Wk.refl _, e.2.1, Wk.refl _, (by first | exact trivial | exact rfl), ⟨0, rfl, rfl, Nat.zero_le _, hle, ho, rfl⟩, fun _ _ hr => ?_, fun c _ hr => ?_, trivial⟩
      · have hr' : leanF k 0 (ordC l) e.2.1 = true := hr
        exact tells_bool (by rw [leanV, hm, decide_eq_true hle, hr']; rfl)
      · obtain ⟨b, _⟩ := c
        obtain ⟨rfl, hr'⟩ := hr
        exact tells_bool (by rw [leanV, hm, decide_eq_true hle, hr']; rfl)
theorem leanCc : CcOk Tryd.prog 9 leanK := val_ok rfl (fun ⟨l, ⟨e, ⟨k, _⟩⟩⟩ h => leanVal l e k h)

end Go.Proofs.YteehkdejkemnmabDoor
