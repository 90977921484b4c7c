/- Forms and contracts, printed by gx.py. -/
import Derived.Test.YteehkdejkemnmabDoorRows
import Derived.Test.YteehkdejkemnmabDoorDvUse
import Derived.Test.YteehkdejkemnmabDoorDvArg
import Derived.ProofKit
namespace Go.Proofs.YteehkdejkemnmabDoor
open Go.Det Go.RowKit
set_option linter.unusedVariables false
set_option linter.unusedSimpArgs false
set_option maxRecDepth 100000
theorem mixed : Tryd.prog.follows .mixedOrders = true := by kernel_rfl

abbrev Eu8 : Enc Int := Enc.int .u8
abbrev Ei64 : Enc Int := Enc.int .i64
def pickV (n m : Int) : Int := if m < 1 then 0 else n % m
theorem pick_eq {n m : Int} (h : 1 ≤ m) : n % m = if n.tmod m < 0 then n.tmod m + m else n.tmod m := by
  have e := Int.mul_tdiv_add_tmod n m
  have h1 : n.tmod m < m := Int.tmod_lt_of_pos n (by omega)
  have h2 : -m < n.tmod m := by
    have := Int.tmod_lt_of_pos (-n) (show 0 < m by omega)
    rw [Int.neg_tmod] at this; omega
  have e2 : n % m = (n.tmod m) % m := by
    conv => lhs; rw [← e, Int.add_comm, Int.add_mul_emod_self_left]
  rw [e2]
  split
  · rename_i h3
    rw [← Int.add_emod_right, Int.emod_eq_of_lt (by omega) (by omega)]
  · rename_i h3
    exact Int.emod_eq_of_lt (by omega) h1

/-! wayfinder/wayfinderkit.Pick -/
noncomputable def pickT : Tel (Int × Int × Unit) := .cons 0 (.int .i64) (.cons 1 (.int .i64) (.nil))

theorem pickFn (n : Int) (m : Int) (Q : AV → Prop) : (callW Tryd.prog (runW Tryd.prog (KL [] []) 200) 8 (pickT.cells id (n, (m, ()))) (stE false) (fun x st => frzW st x Q)) =
  ( ifp (!leInt (1 : Int) m) (Q (AV.int IntKind.i64 (0 : Int))) (m ≠ (0 : Int) ∧ ifp (!leInt (0 : Int) (n.tmod m)) (Q (AV.int IntKind.i64 (wrapF IntKind.i64
  ((n.tmod m).add m)))) (Q (AV.int IntKind.i64 (n.tmod m))))) := by kernel_rfl

def pickPre : Int × Int × Unit → Prop := fun (n, (m, ())) => -9223372036854775808 ≤ n ∧ n < 9223372036854775808 ∧ m < 9223372036854775808
noncomputable def pickRes : Int × Int × Unit → AV := fun (n, (m, ())) => .int .i64 (pickV n m)
noncomputable def pickK : CallC := valC pickT pickPre pickRes

theorem pickVal (n : Int) (m : Int) (hp : pickPre (n, (m, ()))) : Val Tryd.prog 8 (pickT.cells id (n, (m, ()))) (pickRes (n, (m, ()))) := by
  refine Val.ofF mixed (KL_ok (cc_nil)) (freesC rfl _) (pickFn n m) ?_
  obtain ⟨p1, p2, p3⟩ := hp
  rw [ifp_lt]
  split
  · rename_i h
    exact tells_int (by rw [pickV, if_pos h])
  · rename_i h
    refine ⟨by omega, ?_⟩
    rw [ifp_lt]
    have e := pick_eq (n := n) (m := m) (by omega)
    have h1 : Int.tmod n m < m := Int.tmod_lt_of_pos n (by omega)
    have h2 : -m < Int.tmod n m := by
      have := Int.tmod_lt_of_pos (-n) (show 0 < m by omega)
      rw [Int.neg_tmod] at this; omega
    split
    · rename_i h3
      exact tells_int (by rw [pickV, if_neg h, e, if_pos h3]; exact wadd (by omega) (by omega))
    · rename_i h3
      exact tells_int (by rw [pickV, if_neg h, e, if_neg h3])
theorem pickCc : CcOk Tryd.prog 8 pickK := val_ok rfl (fun ⟨n, ⟨m, _⟩⟩ h => pickVal n m h)

theorem pick_range {n m : Int} (h : 0 < m) : 0 ≤ pickV n m ∧ pickV n m < m := by
  rw [pickV, if_neg (by omega)]
  exact ⟨Int.emod_nonneg _ (by omega), Int.emod_lt_of_pos _ h⟩

end Go.Proofs.YteehkdejkemnmabDoor
