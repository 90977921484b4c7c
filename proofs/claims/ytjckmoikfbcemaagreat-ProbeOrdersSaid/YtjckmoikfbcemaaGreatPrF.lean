/- Forms and contracts, printed by gx.py. -/
import Derived.Test.YtjckmoikfbcemaaGreatRows
import Derived.Test.YtjckmoikfbcemaaGreatDvUse
import Derived.Test.YtjckmoikfbcemaaGreatDvArg
import Derived.ProofKit
import Derived.Test.YtjckmoikfbcemaaGreatBase
import Derived.Test.YtjckmoikfbcemaaGreatDvStab2
import Derived.Test.YtjckmoikfbcemaaGreatDvUse2
import Derived.Test.YtjckmoikfbcemaaGreatDvSort
import Derived.Test.YtjckmoikfbcemaaGreatOrdP
import Derived.Test.YtjckmoikfbcemaaGreatStP
import Derived.Test.YtjckmoikfbcemaaGreatStQ
import Derived.Test.YtjckmoikfbcemaaGreatDvClone
import Derived.Test.YtjckmoikfbcemaaGreatClone
import Derived.Test.YtjckmoikfbcemaaGreatPrO
namespace Go.Proofs.YtjckmoikfbcemaaGreat
open Go.Det Go.RowKit
set_option linter.unusedVariables false
set_option linter.unusedSimpArgs false
set_option maxRecDepth 100000
noncomputable def firstV (l : List Cd) (k : Int) : List Cd := (sortC l).take (min (max k 0).toNat l.length)
theorem enc_takeC (l : List Cd) (n : Nat) : (l.flatMap Ec.f).take (n * 4) = (l.take n).flatMap Ec.f := enc_take (E := Ec) l n

/-! wayfinder/probe.First -/
noncomputable def firstT : Tel ((List Cd) × Int × Unit) := .cons 0 (.lst Ec) (.cons 1 (.int .i64) (.nil))

theorem firstFn (l : List Cd) (k : Int) (Q : AV → Prop) : (callW Tryz.prog (runW Tryz.prog (KLS [(8, sortK), (40, clnK)] [] 26) 200) 12 (firstT.cells id (l, (k, ()))) (stE false) (fun x st => frzW st x Q)) =
  ( ∃ (l_1 : List Cd), Wk (AV.vs (List.flatMap Ec.f l) l.length l.length false none (4 : Nat)) (lst Ec l_1) ∧ sortPre (l_1, ()) ∧ (0 : Int) ≤ ifb (leInt (ifb (leInt
  (0 : Int) k) k (0 : Int)) (Int.ofNat l.length)) (ifb (leInt (0 : Int) k) k (0 : Int)) (Int.ofNat l.length) ∧ ifb (leInt (ifb (leInt (0 : Int) k) k (0 : Int))
  (Int.ofNat l.length)) (ifb (leInt (0 : Int) k) k (0 : Int)) (Int.ofNat l.length) ≤ ↑(sortC l_1).length ∧ natOf (ifb true (ifb (leInt (ifb false (ifb (leInt k
  (0 : Int)) k (0 : Int)) (ifb (leInt (0 : Int) k) k (0 : Int))) (Int.ofNat l.length)) (ifb false (ifb (leInt k (0 : Int)) k (0 : Int)) (ifb (leInt (0 : Int) k)
  k (0 : Int))) (Int.ofNat l.length)) (ifb (leInt (Int.ofNat l.length) (ifb false (ifb (leInt k (0 : Int)) k (0 : Int)) (ifb (leInt (0 : Int) k) k (0 : Int))))
  (ifb false (ifb (leInt k (0 : Int)) k (0 : Int)) (ifb (leInt (0 : Int) k) k (0 : Int))) (Int.ofNat l.length))) ≤ (sortC l_1).length ∧ (List.flatMap Ec.f (sortC
  l_1)).length = (sortC l_1).length.mul (4 : Nat) ∧ ∃ (l_2 : List Cd), Wk (AV.vs (List.take (((natOf (ifb true (ifb (leInt (ifb false (ifb (leInt k (0 : Int)) k
  (0 : Int)) (ifb (leInt (0 : Int) k) k (0 : Int))) (Int.ofNat l.length)) (ifb false (ifb (leInt k (0 : Int)) k (0 : Int)) (ifb (leInt (0 : Int) k) k (0 : Int)))
  (Int.ofNat l.length)) (ifb (leInt (Int.ofNat l.length) (ifb false (ifb (leInt k (0 : Int)) k (0 : Int)) (ifb (leInt (0 : Int) k) k (0 : Int)))) (ifb false (ifb
  (leInt k (0 : Int)) k (0 : Int)) (ifb (leInt (0 : Int) k) k (0 : Int))) (Int.ofNat l.length)))).sub (0 : Nat)).mul (4 : Nat)) (List.drop (0 : Nat)
  (List.flatMap Ec.f (sortC l_1)))) ((natOf (ifb true (ifb (leInt (ifb false (ifb (leInt k (0 : Int)) k (0 : Int)) (ifb (leInt (0 : Int) k) k (0 : Int)))
  (Int.ofNat l.length)) (ifb false (ifb (leInt k (0 : Int)) k (0 : Int)) (ifb (leInt (0 : Int) k) k (0 : Int))) (Int.ofNat l.length)) (ifb (leInt (Int.ofNat
  l.length) (ifb false (ifb (leInt k (0 : Int)) k (0 : Int)) (ifb (leInt (0 : Int) k) k (0 : Int)))) (ifb false (ifb (leInt k (0 : Int)) k (0 : Int)) (ifb (leInt
  (0 : Int) k) k (0 : Int))) (Int.ofNat l.length)))).sub (0 : Nat)) ((sortC l_1).length.sub (0 : Nat)) (mxEx none false) none (4 : Nat)) (lst Ec l_2) ∧ clnPre
  (l_2, ()) ∧ Q (AV.vs (List.flatMap Ec.f l_2) l_2.length l_2.length false none (4 : Nat))) := by kernel_rfl

def firstPre : (List Cd) × Int × Unit → Prop := fun (l, (k, ())) => l.length ≤ 1000000
noncomputable def firstRes : (List Cd) × Int × Unit → AV := fun (l, (k, ())) => lst Ec (firstV l k)
noncomputable def firstK : CallC := valC firstT firstPre firstRes

theorem firstVal (l : List Cd) (k : Int) (hp : firstPre (l, (k, ()))) : Val Tryz.prog 12 (firstT.cells id (l, (k, ()))) (firstRes (l, (k, ()))) := by
  refine Val.ofF mixed (KLS_ok (cc_cons sortCc (cc_cons clnCc (cc_nil)))) (freesC rfl _) (firstFn l k) ?_
  have hl : l.length ≤ 1000000 := hp
  have hs : (sortC l).length = l.length := Go.Det.Stab.sort_len l
  have hmx : ifb (leInt 0 k) k 0 = max k 0 := by
    rw [ifb_eq, leInt_eq]
    by_cases c : (0 : Int) ≤ k
    · rw [if_pos (by simpa using c)]; omega
    · rw [if_neg (by simpa using c)]; omega
  have hmn : ifb (leInt (max k 0) (Int.ofNat l.length)) (max k 0) (Int.ofNat l.length) = Int.ofNat (min (max k 0).toNat l.length) := by
    rw [ifb_eq, leInt_eq]
    by_cases c : max k 0 ≤ (Int.ofNat l.length)
    · rw [if_pos (by simpa using c)]; simp only [Int.ofNat_eq_natCast] at *; omega
    · rw [if_neg (by simpa using c)]; simp only [Int.ofNat_eq_natCast] at *; omega
  refine ⟨l, Wk.refl _, hl, ?_⟩
  simp only [ifb_true, ifb_false, hmx, hmn]
  have hfl : firstV l k = (sortC l).take (min (max k 0).toNat l.length) := rfl
  generalize hN : min (max k 0).toNat l.length = N at *
  have hNl : N ≤ l.length := by omega
  have hfn : (firstV l k).length = N := by rw [hfl, List.length_take]; omega
  refine ⟨Int.natCast_nonneg _, by show (N : Int) ≤ ((sortC l).length : Int); omega, by show N ≤ (sortC l).length; omega, cd_len _, firstV l k, wk_vs ⟨?_, ?_, rfl⟩, by show (firstV l k).length ≤ 1000000; omega, tells_lst ⟨rfl, rfl, rfl⟩⟩
  · show List.take (N * 4) (List.drop 0 ((sortC l).flatMap Ec.f)) = (firstV l k).flatMap Ec.f
    rw [List.drop_zero, enc_takeC, hfl]
  · show N = _
    exact hfn.symm
theorem firstCc : CcOk Tryz.prog 12 firstK := val_ok rfl (fun ⟨l, ⟨k, _⟩⟩ h => firstVal l k h)

noncomputable def Kc : KEnc Cd := KEnc.ints .i64 (fun a => [a.1, a.2.1, a.2.2.1, a.2.2.2.1]) 4 (fun _ => rfl) (fun a b h => by
  obtain ⟨a1, a2, a3, a4, _⟩ := a
  obtain ⟨b1, b2, b3, b4, _⟩ := b
  simp at h
  obtain ⟨h1, h2, h3, h4⟩ := h
  rw [h1, h2, h3, h4])
abbrev Vi64 : VEnc Int := VEnc.int .i64

end Go.Proofs.YtjckmoikfbcemaaGreat
