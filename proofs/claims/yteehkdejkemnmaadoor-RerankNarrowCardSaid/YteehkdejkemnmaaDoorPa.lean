/- Part of the proof of RerankNarrow. -/
import Derived.Test.YteehkdejkemnmaaDoorRows
import Derived.Test.YteehkdejkemnmaaDoorDd
import Derived.ProofKit
import Derived.Shelf.SlicesE.Clone
import Derived.Ground.SlgnProg
import Derived.Test.YteehkdejkemnmaaDoorProg
import Derived.Shelf.SlSortCmp.NoneTotal
import Derived.Ground.SlsfProg
import Derived.Test.YteehkdejkemnmaaDoorDe
set_option linter.unusedVariables false
set_option linter.unusedSimpArgs false
namespace Go.Proofs.YteehkdejkemnmaaDoor
open Go.Det Go.RowKit
noncomputable abbrev PP := Tryd.prog
set_option maxRecDepth 100000
theorem mixed : Tryd.prog.follows .mixedOrders = true := by kernel_rfl
abbrev Ei64 : Enc Int := Enc.int .i64
def uA2 (n m : Int) : Int := if m < 1 then 0 else n % m
theorem pick_eq {n m : Int} (h : 1 ≤ m) : n % m = if n.tmod m < 0 then n.tmod m + m else n.tmod m := by
 have e := Int.mul_tdiv_add_tmod n m
 have h1 : n.tmod m < m := Int.tmod_lt_of_pos n (by omega)
 have h2 : -m < n.tmod m := by
  have := Int.tmod_lt_of_pos (-n) (show 0 < m by omega)
  rw [Int.neg_tmod] at this; omega
 have e2 : n % m = (n.tmod m) % m := by
  conv => lhs; rw [← e, Int.add_comm, Int.add_mul_emod_self_left]
 rw [e2]
 split
 ·rename_i h3
  rw [← Int.add_emod_right, Int.emod_eq_of_lt (by omega) (by omega)]
 ·rename_i h3
  exact Int.emod_eq_of_lt (by omega) h1
noncomputable def uVq : Tel (Int × Int × Unit) := .ji 0 (.ji 1 (.nil))
theorem pickFn (n m : Int) (Q : AV → Prop) : (callW Tryd.prog (runW Tryd.prog (KL [] []) 200) 7 (uVq.cells id (n, m, ())) (stE false) (fun x st => frzW st x Q)) = ( ifp (!leInt 1 m) (Q (I64 0)) (m ≠ 0 ∧ ifp (!leInt 0 (n.tmod m)) (Q (I64 (wrapF .i64 ((n.tmod m).add m)))) (Q (I64 (n.tmod m))))) := by kernel_rfl
def uGo : Int × Int × Unit → Prop := fun (n, m, ()) => -9223372036854775808 ≤ n ∧ n < 9223372036854775808 ∧ m < 9223372036854775808
noncomputable def uPu : Int × Int × Unit → AV := fun (n, m, ()) => .int .i64 (uA2 n m)
noncomputable def uSj : CallC := valC uVq uGo uPu
theorem pickVal (n : Int) (m : Int) (hp : uGo (n, m, ())) : Val Tryd.prog 7 (uVq.cells id (n, m, ())) (uPu (n, m, ())) := by
 refine Val.ofF mixed (KL_ok (cc_nil)) (freesC rfl _) (pickFn n m) ?_
 obtain ⟨p1, p2, p3⟩ := hp
 rw [ifp_lt]
 split
 ·rename_i h
  exact tells_int (by rw [uA2, if_pos h])
 ·rename_i h
  refine ⟨by omega, ?_⟩
  rw [ifp_lt]
  have e := pick_eq (n := n) (m := m) (by omega)
  have h1 : Int.tmod n m < m := Int.tmod_lt_of_pos n (by omega)
  have h2 : -m < Int.tmod n m := by
   have := Int.tmod_lt_of_pos (-n) (show 0 < m by omega)
   rw [Int.neg_tmod] at this; omega
  split
  ·rename_i h3
   exact tells_int (by rw [uA2, if_neg h, e, if_pos h3]; exact wadd (by omega) (by omega))
  ·rename_i h3
   exact tells_int (by rw [uA2, if_neg h, e, if_neg h3])
theorem pickCc : CcOk Tryd.prog 7 uSj := val_ok rfl (fun ⟨n, ⟨m, _⟩⟩ h => pickVal n m h)
theorem uC1 {n m : Int} (h : 0 < m) : 0 ≤ uA2 n m ∧ uA2 n m < m := by
 rw [uA2, if_neg (by omega)]
 exact ⟨Int.emod_nonneg _ (by omega), Int.emod_lt_of_pos _ h⟩
end Go.Proofs.YteehkdejkemnmaaDoor
namespace Go.Proofs
open Go.Shelf
def Tryd.uEw : Go.Shelf.Ren := ⟨fun | 41 => 41 | n => n, fun | 22 => 32 | 23 => 42 | 4 => 4 | n => n, fun | n => n⟩
theorem Tryd.clone41 : Go.Proofs.SlLaysE0.n41 Tryd.prog Tryd.uEw := {
  mixed := by kernel_rfl
  f41 := ⟨Tryd.f41.name, by decide, Tryd.func41.trans (congrArg some (by kernel_rfl))⟩
  t4 := Tryd.underlying4
  a4 := Tryd.isAgg4
  z4 := Tryd.sizeOf4
  v4 := Tryd.zeroValue4
  t22 := Tryd.underlying32
  a22 := Tryd.isAgg32
  z22 := Tryd.sizeOf32
  v22 := Tryd.zeroValue32 }
end Go.Proofs
namespace Go.Proofs
open Go.Shelf
def Tryd.sort47_ren : Go.Shelf.Ren := ⟨fun | 6 => 47 | 15 => 62 | 14 => 61 | 28 => 75 | 29 => 76 | 20 => 67 | 21 => 68 | 22 => 69 | 23 => 70 | 24 => 71 | 25 => 72 | 26 => 73 | 27 => 74 | 46 => 80 | 47 => 81 | 48 => 82 | 49 => 83 | 50 => 84 | 57 => 87 | n => n, fun | 22 => 34 | 24 => 44 | 25 => 99 | 3 => 3 | 39 => 112 | 0 => 0 | 53 => 127 | 55 => 82 | 4 => 4 | 46 => 120 | 45 => 119 | 50 => 124 | 5 => 5 | 9 => 9 | 66 => 130 | 70 => 134 | 76 => 137 | 77 => 138 | n => n, fun | n => n⟩
theorem Tryd.uS2 : Go.Proofs.SlLaysF0.n6 Tryd.prog Tryd.sort47_ren := {
  mixed := by kernel_rfl
  f6 := ⟨Tryd.f47.name, by decide, Tryd.func47.trans (congrArg some (by kernel_rfl))⟩
  f14 := ⟨Tryd.f61.name, by decide, Tryd.func61.trans (congrArg some (by kernel_rfl))⟩
  f15 := Tryd.func62.trans (congrArg some (by kernel_rfl))
  f20 := ⟨Tryd.f67.name, by decide, Tryd.func67.trans (congrArg some (by kernel_rfl))⟩
  f21 := ⟨Tryd.f68.name, by decide, Tryd.func68.trans (congrArg some (by kernel_rfl))⟩
  f22 := ⟨Tryd.f69.name, by decide, Tryd.func69.trans (congrArg some (by kernel_rfl))⟩
  f23 := ⟨Tryd.f70.name, by decide, Tryd.func70.trans (congrArg some (by kernel_rfl))⟩
  f24 := ⟨Tryd.f71.name, by decide, Tryd.func71.trans (congrArg some (by kernel_rfl))⟩
  f25 := ⟨Tryd.f72.name, by decide, Tryd.func72.trans (congrArg some (by kernel_rfl))⟩
  f26 := ⟨Tryd.f73.name, by decide, Tryd.func73.trans (congrArg some (by kernel_rfl))⟩
  f27 := ⟨Tryd.f74.name, by decide, Tryd.func74.trans (congrArg some (by kernel_rfl))⟩
  f28 := Tryd.func75.trans (congrArg some (by kernel_rfl))
  f29 := Tryd.func76.trans (congrArg some (by kernel_rfl))
  f46 := ⟨Tryd.f80.name, by decide, Tryd.func80.trans (congrArg some (by kernel_rfl))⟩
  f47 := Tryd.func81.trans (congrArg some (by kernel_rfl))
  f48 := Tryd.func82.trans (congrArg some (by kernel_rfl))
  f49 := ⟨Tryd.f83.name, by decide, Tryd.func83.trans (congrArg some (by kernel_rfl))⟩
  f50 := ⟨Tryd.f84.name, by decide, Tryd.func84.trans (congrArg some (by kernel_rfl))⟩
  f57 := ⟨Tryd.f87.name, by decide, Tryd.func87.trans (congrArg some (by kernel_rfl))⟩
  t0 := Tryd.underlying0
  a0 := Tryd.isAgg0
  z0 := Tryd.sizeOf0
  v0 := Tryd.zeroValue0
  t3 := Tryd.underlying3
  a3 := Tryd.isAgg3
  z3 := Tryd.sizeOf3
  v3 := Tryd.zeroValue3
  t4 := Tryd.underlying4
  a4 := Tryd.isAgg4
  z4 := Tryd.sizeOf4
  v4 := Tryd.zeroValue4
  t5 := Tryd.underlying5
  a5 := Tryd.isAgg5
  z5 := Tryd.sizeOf5
  v5 := Tryd.zeroValue5
  t9 := Tryd.underlying9
  a9 := Tryd.isAgg9
  z9 := Tryd.sizeOf9
  v9 := Tryd.zeroValue9
  t22 := Tryd.underlying34
  a22 := Tryd.isAgg34
  z22 := Tryd.sizeOf34
  v22 := Tryd.zeroValue34
  t25 := Tryd.underlying99
  a25 := Tryd.isAgg99
  z25 := Tryd.sizeOf99
  v25 := Tryd.zeroValue99
  t39 := Tryd.underlying112
  a39 := Tryd.isAgg112
  z39 := Tryd.sizeOf112
  v39 := Tryd.zeroValue112
  t45 := Tryd.underlying119
  a45 := Tryd.isAgg119
  z45 := Tryd.sizeOf119
  v45 := Tryd.zeroValue119
  t46 := Tryd.underlying120
  a46 := Tryd.isAgg120
  z46 := Tryd.sizeOf120
  v46 := Tryd.zeroValue120
  t50 := Tryd.underlying124
  a50 := Tryd.isAgg124
  z50 := Tryd.sizeOf124
  v50 := Tryd.zeroValue124
  t53 := Tryd.underlying127
  a53 := Tryd.isAgg127
  z53 := Tryd.sizeOf127
  v53 := Tryd.zeroValue127
  t55 := Tryd.underlying82
  a55 := Tryd.isAgg82
  z55 := Tryd.sizeOf82
  v55 := Tryd.zeroValue82
  t66 := Tryd.underlying130
  a66 := Tryd.isAgg130
  z66 := Tryd.sizeOf130
  v66 := Tryd.zeroValue130
  t70 := Tryd.underlying134
  a70 := Tryd.isAgg134
  z70 := Tryd.sizeOf134
  v70 := Tryd.zeroValue134
  t76 := Tryd.underlying137
  a76 := Tryd.isAgg137
  z76 := Tryd.sizeOf137
  v76 := Tryd.zeroValue137
  t77 := Tryd.underlying138
  a77 := Tryd.isAgg138
  z77 := Tryd.sizeOf138
  v77 := Tryd.zeroValue138 }
end Go.Proofs
namespace Go.Proofs.YteehkdejkemnmaaDoor
open Go.Det Go.RowKit
set_option maxRecDepth 100000
abbrev Cd := Int × Int × Int × Int × Unit
abbrev Ec : Enc Cd := Enc.pair (Enc.int .i64) (Enc.pair (Enc.int .i64) (Enc.pair (Enc.int .i64) (Enc.pair (Enc.int .i64) Enc.unit)))
theorem uIe {l : List Cd} {k j : Nat} (h : k < l.length) (hj : j < 4) : nth (Nat.add (Nat.mul k 4) j) (l.flatMap Ec.f) = (Ec.f l[k])[j]? := by rw [nth_eq]; exact enc_get (E := Ec) l k j h hj
theorem uGv {l : List Cd} {k : Nat} (h : k < l.length) : nth (Nat.add (Nat.mul k 4) 0) (l.flatMap Ec.f) = some (.int .i64 l[k].1) := uIe h (by decide)
theorem uGu {l : List Cd} {k : Nat} (h : k < l.length) : nth (Nat.add (Nat.mul k 4) 1) (l.flatMap Ec.f) = some (.int .i64 l[k].2.1) := uIe h (by decide)
theorem uGt {l : List Cd} {k : Nat} (h : k < l.length) : nth (Nat.add (Nat.mul k 4) 2) (l.flatMap Ec.f) = some (.int .i64 l[k].2.2.1) := uIe h (by decide)
theorem uGs {l : List Cd} {k : Nat} (h : k < l.length) : nth (Nat.add (Nat.mul k 4) 3) (l.flatMap Ec.f) = some (.int .i64 l[k].2.2.2.1) := uIe h (by decide)
theorem uGr {l : List Cd} {k j : Nat} (h : k < l.length) (hj : j < 4) : nth (Nat.add (Nat.add 0 (Nat.mul k 4)) j) (l.flatMap Ec.f) = (Ec.f l[k])[j]? := by rw [show Nat.add 0 (Nat.mul k 4) = Nat.mul k 4 from Nat.zero_add _]; exact uIe h hj
theorem uAm {l : List Cd} {k : Nat} (h : k < l.length) : nth (Nat.add (Nat.add 0 (Nat.mul k 4)) 0) (l.flatMap Ec.f) = some (.int .i64 l[k].1) := uGr h (by decide)
theorem uAh {l : List Cd} {k : Nat} (h : k < l.length) : nth (Nat.add (Nat.add 0 (Nat.mul k 4)) 1) (l.flatMap Ec.f) = some (.int .i64 l[k].2.1) := uGr h (by decide)
theorem uAl {l : List Cd} {k : Nat} (h : k < l.length) : nth (Nat.add (Nat.add 0 (Nat.mul k 4)) 2) (l.flatMap Ec.f) = some (.int .i64 l[k].2.2.1) := uGr h (by decide)
theorem uAk {l : List Cd} {k : Nat} (h : k < l.length) : nth (Nat.add (Nat.add 0 (Nat.mul k 4)) 3) (l.flatMap Ec.f) = some (.int .i64 l[k].2.2.2.1) := uGr h (by decide)
theorem uB9 (l : List Cd) : (l.flatMap Ec.f).length = l.length * 4 := Enc.flen Ec l
theorem uFl {l : List Cd} {k : Nat} {x : Cd} (h : k < l.length) : setAt (Nat.add 0 (Nat.mul k 4)) [AV.int .i64 x.1, AV.int .i64 x.2.1, AV.int .i64 x.2.2.1, AV.int .i64 x.2.2.2.1] (l.flatMap Ec.f) = (l.set k x).flatMap Ec.f := by
 rw [show Nat.add 0 (Nat.mul k 4) = k * 4 from Nat.zero_add _]; exact enc_set (E := Ec) h
theorem uDf {l : List Cd} {k n : Nat} (h : k < n) (hn : l.length = n) : (Nat.add 0 (Nat.mul k 4)).add 4 ≤ (l.flatMap Ec.f).length := by
 rw [uB9, show Nat.add 0 (Nat.mul k 4) = k * 4 from Nat.zero_add _]; show k * 4 + 4 ≤ _; omega
theorem uSw {l : List Cd} {i j : Nat} (hi : i < l.length) (hj : j < l.length) : setAt (Nat.add 0 (Nat.mul j 4)) [AV.int .i64 l[i].1, AV.int .i64 l[i].2.1, AV.int .i64 l[i].2.2.1, AV.int .i64 l[i].2.2.2.1] (setAt (Nat.add 0 (Nat.mul i 4)) [AV.int .i64 l[j].1, AV.int .i64 l[j].2.1, AV.int .i64 l[j].2.2.1, AV.int .i64 l[j].2.2.2.1] (l.flatMap Ec.f)) = (Stab.sw l i j).flatMap Ec.f := by
 rw [uFl hi, uFl (x := l[i]) (by simpa using hj), Stab.sw_eq hi hj]
def cmpV (a b : Int) : Int := if a < b then -1 else if b < a then 1 else 0
noncomputable def cmpT : Tel (Int × Int × Unit) := .ji 0 (.ji 1 (.nil))
theorem cmpFn (a b : Int) (Q : AV → Prop) : (callW PP (runW PP (KL [] []) 200) 45 (cmpT.cells id (a, b, ())) (stE false) (fun x st => frzW st x Q)) = ( ifp (!eqInt a a) (ifp (!eqInt b b) (Q (I64 0)) (Q (I64 (-1)))) (ifp (!eqInt b b) (Q (I64 1)) (ifp (!leInt b a) (Q (I64 (-1))) (ifp (!leInt a b) (Q (I64 1)) (Q (I64 0)))))) := by kernel_rfl
def uFk : Int × Int × Unit → Prop := fun (a, b, ()) => True
noncomputable def uT7 : Int × Int × Unit → AV := fun (a, b, ()) => .int .i64 (cmpV a b)
noncomputable def cmpK : CallC := valC cmpT uFk uT7
theorem cmpVal (a : Int) (b : Int) (hp : uFk (a, b, ())) : Val PP 45 (cmpT.cells id (a, b, ())) (uT7 (a, b, ())) := by
 refine Val.ofF mixed (KL_ok (cc_nil)) (freesC rfl _) (cmpFn a b) ?_
 rw [ifp_ne, if_pos rfl, ifp_ne, if_pos rfl, ifp_lt]
 split
 ·rename_i h; exact tells_int (by rw [cmpV, if_pos h])
 ·rename_i h
  rw [ifp_lt]
  split
  ·rename_i h2; exact tells_int (by rw [cmpV, if_neg h, if_pos h2])
  ·rename_i h2; exact tells_int (by rw [cmpV, if_neg h, if_neg h2])
theorem uX3 : CcOk PP 45 cmpK := val_ok rfl (fun ⟨a, ⟨b, _⟩⟩ h => cmpVal a b h)
noncomputable def lowV (a : Cd) : Int := wrapF .i64 (Int.sub a.2.1 a.2.2.1)
noncomputable def lowT : Tel (Cd × Unit) := .cons 0 (.agg Ec) (.nil)
theorem lowFn (a : Cd) (Q : AV → Prop) : (callW PP (runW PP (KL [] []) 200) 25 (lowT.cells id (a, ())) (stE false) (fun x st => frzW st x Q)) = ( Q (I64 (wrapF .i64 (a.2.1.sub a.2.2.1)))) := by kernel_rfl
def uEo : Cd × Unit → Prop := fun (a, ()) => True
noncomputable def uTs : Cd × Unit → AV := fun (a, ()) => .int .i64 (lowV a)
noncomputable def lowK : CallC := valC lowT uEo uTs
theorem lowVal (a : Cd) (hp : uEo (a, ())) : Val PP 25 (lowT.cells id (a, ())) (uTs (a, ())) := by
 refine Val.ofF mixed (KL_ok (cc_nil)) (freesC rfl _) (lowFn a) ?_
 exact tells_int rfl
theorem uXu : CcOk PP 25 lowK := val_ok rfl (fun ⟨a, _⟩ h => lowVal a h)
noncomputable def uEu (a b : Cd) : Int := if cmpV (lowV a) (lowV b) ≠ 0 then cmpV (lowV a) (lowV b) else cmpV a.1 b.1
noncomputable def uW3 : Tel (Cd × Cd × Unit) := .cons 0 (.agg Ec) (.cons 1 (.agg Ec) (.nil))
theorem cmpcFn (a b : Cd) (Q : AV → Prop) : (callW PP (runW PP (KL [(45, cmpK), (25, lowK)] []) 200) 43 (uW3.cells id (a, b, ())) (stE false) (fun x st => frzW st x Q)) = ( ∃ (a_1 : Cd), AV.agg [I64 a.1, I64 a.2.1, I64 a.2.2.1, I64 a.2.2.2.1] = AV.agg [I64 a_1.1, I64 a_1.2.1, I64 a_1.2.2.1, I64 a_1.2.2.2.1] ∧ uEo (a_1, ()) ∧ ∃ (a_2 : Cd), AV.agg [I64 b.1, I64 b.2.1, I64 b.2.2.1, I64 b.2.2.2.1] = AV.agg [I64 a_2.1, I64 a_2.2.1, I64 a_2.2.2.1, I64 a_2.2.2.2.1] ∧ uEo (a_2, ()) ∧ uFk (lowV a_1, lowV a_2, ()) ∧ uFk (a.1, b.1, ()) ∧ idxOk 0 2 ∧ ifp (!eqInt (cmpV (lowV a_1) (lowV a_2)) 0) (True ∧ (AV.agg [I64 b.1, I64 b.2.1, I64 b.2.2.1, I64 b.2.2.2.1] = AV.agg [I64 b.1, I64 b.2.1, I64 b.2.2.1, I64 b.2.2.2.1] ∧ True) ∧ (I64 a.1 = I64 a.1 ∧ I64 a.1 = I64 a.1 ∧ I64 a.1 = I64 a.1 ∧ True) ∧ (I64 b.1 = I64 b.1 ∧ I64 b.1 = I64 b.1 ∧ I64 b.1 = I64 b.1 ∧ True) ∧ Q (I64 (cmpV (lowV a_1) (lowV a_2)))) (idxOk (wrapF .i64 (Int.add 0 1)) 2 ∧ ifp (!eqInt (cmpV a.1 b.1) 0) (True ∧ (AV.agg [I64 b.1, I64 b.2.1, I64 b.2.2.1, I64 b.2.2.2.1] = AV.agg [I64 b.1, I64 b.2.1, I64 b.2.2.1, I64 b.2.2.2.1] ∧ True) ∧ (I64 a.1 = I64 a.1 ∧ I64 a.1 = I64 a.1 ∧ I64 a.1 = I64 a.1 ∧ True) ∧ (I64 b.1 = I64 b.1 ∧ I64 b.1 = I64 b.1 ∧ I64 b.1 = I64 b.1 ∧ True) ∧ Q (I64 (cmpV a.1 b.1))) (True ∧ (AV.agg [I64 b.1, I64 b.2.1, I64 b.2.2.1, I64 b.2.2.2.1] = AV.agg [I64 b.1, I64 b.2.1, I64 b.2.2.1, I64 b.2.2.2.1] ∧ True) ∧ (I64 a.1 = I64 a.1 ∧ I64 a.1 = I64 a.1 ∧ I64 a.1 = I64 a.1 ∧ True) ∧ (I64 b.1 = I64 b.1 ∧ I64 b.1 = I64 b.1 ∧ I64 b.1 = I64 b.1 ∧ True) ∧ Q (I64 0)))) := by kernel_rfl
def uC6 : Cd × Cd × Unit → Prop := fun (a, b, ()) => True
noncomputable def uRz : Cd × Cd × Unit → AV := fun (a, b, ()) => .int .i64 (uEu a b)
noncomputable def uIu : CallC := valC uW3 uC6 uRz
theorem cmpcVal (a : Cd) (b : Cd) (hp : uC6 (a, b, ())) : Val PP 43 (uW3.cells id (a, b, ())) (uRz (a, b, ())) := by
 refine Val.ofF mixed (KL_ok (cc_cons uX3 (cc_cons uXu (cc_nil)))) (freesC rfl _) (cmpcFn a b) ?_
 refine ⟨a, rfl, trivial, b, rfl, trivial, trivial, trivial, idx_ok0 (by decide), ?_⟩
 rw [ifp_ne]
 split
 ·rename_i h
  refine ⟨⟨by decide, by decide⟩, ?_⟩
  rw [ifp_ne]
  split
  ·rename_i h2
   exact ⟨trivial, ⟨(by trivial), trivial⟩, ⟨(by trivial), (by trivial), (by trivial), trivial⟩, ⟨(by trivial), (by trivial), (by trivial), trivial⟩, tells_int (by rw [uEu, if_neg (by omega), h2])⟩
  ·exact ⟨trivial, ⟨(by trivial), trivial⟩, ⟨(by trivial), (by trivial), (by trivial), trivial⟩, ⟨(by trivial), (by trivial), (by trivial), trivial⟩, tells_int (by rw [uEu, if_neg (by omega)])⟩
 ·rename_i h
  exact ⟨trivial, ⟨(by trivial), trivial⟩, ⟨(by trivial), (by trivial), (by trivial), trivial⟩, ⟨(by trivial), (by trivial), (by trivial), trivial⟩, tells_int (by rw [uEu, if_pos h])⟩
theorem uEv : CcOk PP 43 uIu := val_ok rfl (fun ⟨a, ⟨b, _⟩⟩ h => cmpcVal a b h)
noncomputable def ltC (a b : Cd) : Bool := decide (uEu a b < 0)
theorem cmpcV_lt {a b : Cd} : uEu a b < 0 ↔ lowV a < lowV b ∨ lowV a = lowV b ∧ a.1 < b.1 := by
 unfold uEu cmpV; split <;> (repeat' split) <;> omega
theorem uG1 {a b : Cd} : ltC a b = true ↔ lowV a < lowV b ∨ lowV a = lowV b ∧ a.1 < b.1 := by rw [ltC, decide_eq_true_iff, cmpcV_lt]
theorem uEy : Stab.Weak ltC where
 irr a := by rw [← Bool.not_eq_true, uG1]; omega
 tr a b c h1 h2 := by rw [uG1] at *; omega
 ntr a b c h1 h2 := by rw [← Bool.not_eq_true, uG1] at *; omega
end Go.Proofs.YteehkdejkemnmaaDoor
namespace Go.Proofs.YteehkdejkemnmaaDoor
open Go.Det Go.RowKit
set_option maxRecDepth 100000
abbrev uBa := Nat × Nat
abbrev uHy := (uBa × Int × Int × Int × Int × Unit) × ((List Cd) × Unit)
noncomputable def uNu : Tel (uBa × Int × Int × Int × Int × Unit) := .cons 0 (.slq 0 4) (.ji 1 (.ji 2 (.ji 3 (.ji 10 (.nil)))))
noncomputable def uNx : BTel ((List Cd) × Unit) := .cons (.rows Ec 42) (.nil)
noncomputable def uNw : List (LForm uHy) := [⟨_, _, uNu, uNx, fun x y => (x, y)⟩]
abbrev uAb := (List Cd) × Unit
noncomputable def uFr (R0 : uHy → (Unit) → uAb → Prop) : List (Alt uHy) := [⟨.exit 0, Unit, uAb, .nil, .cons (.rows Ec 42) (.nil), R0⟩]
noncomputable abbrev uE9 := KLS [] [] 42
theorem swrLForm (d : Nat × Nat) (a b n i : Int) (m : List Cd) (N : uHy → Prop) (R0 : uHy → (Unit) → uAb → Prop) : ((runW PP uE9 100).code none 86 38 (loopBody PP 86 1) (mkT (uNu.av id (d, a, b, n, i, ()))) [] (stL false (uNx.obs id (m, ()))) (postL 1 uNw (uFr R0) ((d, a, b, n, i, ()), m, ()) N)) = ( ifp (!leInt n i) (idxOk (wrapF .i64 (b.add i)) d.1 ∧ ∃ x : Int, nth ((Nat.add 0 ((natOf (wrapF .i64 (b.add i))).mul 4)).add 0) (m.flatMap Ec.f) = some (I64 x) ∧ ∃ x_1 : Int, nth ((Nat.add 0 ((natOf (wrapF .i64 (b.add i))).mul 4)).add 1) (m.flatMap Ec.f) = some (I64 x_1) ∧ ∃ x_2 : Int, nth ((Nat.add 0 ((natOf (wrapF .i64 (b.add i))).mul 4)).add 2) (m.flatMap Ec.f) = some (I64 x_2) ∧ ∃ x_3 : Int, nth ((Nat.add 0 ((natOf (wrapF .i64 (b.add i))).mul 4)).add 3) (m.flatMap Ec.f) = some (I64 x_3) ∧ idxOk (wrapF .i64 (a.add i)) d.1 ∧ ∃ x_4 : Int, nth ((Nat.add 0 ((natOf (wrapF .i64 (a.add i))).mul 4)).add 0) (m.flatMap Ec.f) = some (I64 x_4) ∧ ∃ x_5 : Int, nth ((Nat.add 0 ((natOf (wrapF .i64 (a.add i))).mul 4)).add 1) (m.flatMap Ec.f) = some (I64 x_5) ∧ ∃ x_6 : Int, nth ((Nat.add 0 ((natOf (wrapF .i64 (a.add i))).mul 4)).add 2) (m.flatMap Ec.f) = some (I64 x_6) ∧ ∃ x_7 : Int, nth ((Nat.add 0 ((natOf (wrapF .i64 (a.add i))).mul 4)).add 3) (m.flatMap Ec.f) = some (I64 x_7) ∧ idxOk (wrapF .i64 (a.add i)) d.1 ∧ (Nat.add 0 ((natOf (wrapF .i64 (a.add i))).mul 4)).add 4 ≤ (m.flatMap Ec.f).length ∧ idxOk (wrapF .i64 (b.add i)) d.1 ∧ (Nat.add 0 ((natOf (wrapF .i64 (b.add i))).mul 4)).add 4 ≤ (setAt (Nat.add 0 ((natOf (wrapF .i64 (a.add i))).mul 4)) [I64 x, I64 x_1, I64 x_2, I64 x_3] (m.flatMap Ec.f)).length ∧ True ∧ True ∧ True ∧ ∃ (l : List Cd), setAt (Nat.add 0 ((natOf (wrapF .i64 (b.add i))).mul 4)) [I64 x_4, I64 x_5, I64 x_6, I64 x_7] (setAt (Nat.add 0 ((natOf (wrapF .i64 (a.add i))).mul 4)) [I64 x, I64 x_1, I64 x_2, I64 x_3] (m.flatMap Ec.f)) = l.flatMap Ec.f ∧ true = true ∧ N ((d, a, b, n, wrapF .i64 (i.add 1), ()), l, ())) (True ∧ ∃ l, Sa Ec m l ∧ true = true ∧ R0 ((d, a, b, n, i, ()), m, ()) () (l, ()))) := by kernel_rfl
def uI2 : uHy → Prop := fun ((d, a, b, n, i, ()), m, ()) => ∃ A B n2 k : Nat, a = A ∧ b = B ∧ n = n2 ∧ i = k ∧ d.1 = m.length ∧ k ≤ n2 ∧ A + n2 ≤ m.length ∧ B + n2 ≤ m.length ∧ m.length ≤ 1000000
def uSz : uHy → Nat := fun ((d, a, b, n, i, ()), m, ()) => n.toNat - i.toNat
def uNv : uHy → (Unit) → uAb → Prop := fun ((d, a, b, n, i, ()), m, ()) _ (m2, _) => m2.length = m.length ∧ Stab.SwapR m (a.toNat + i.toNat) (b.toNat + i.toNat) (n.toNat - i.toNat) m2
noncomputable def uR6 : LoopC := loopC 1 uNw (uFr uNv) uI2
theorem swrLStep : stepsOk PP uE9 100 86 38 (loopBody PP 86 1) 1 false uNw (uFr uNv) uI2 uSz ⟨_, _, uNu, uNx, fun x y => (x, y)⟩ := by
 intro x y hz
 obtain ⟨d, a, b, n, i, _⟩ := x
 obtain ⟨m, _⟩ := y
 refine (swrLForm d a b n i m _ _).mpr ?_
 obtain ⟨A, B, q, k, rfl, rfl, rfl, rfl, hd, hk, hA, hB, hm⟩ := hz
 obtain ⟨d1, d2⟩ := d
 obtain rfl : d1 = m.length := hd
 rw [ifp_lt]
 split
 ·rename_i h
  have hkq : k < q := by omega
  have ha : A + k < m.length := by omega
  have hb : B + k < m.length := by omega
  have e1 : wrapF .i64 (Int.add (A : Int) (k : Int)) = ((A + k : Nat) : Int) := by rw [wadd (by omega) (by omega)]; omega
  have e2 : wrapF .i64 (Int.add (B : Int) (k : Int)) = ((B + k : Nat) : Int) := by rw [wadd (by omega) (by omega)]; omega
  have e3 : wrapF .i64 (Int.add (k : Int) 1) = ((k + 1 : Nat) : Int) := by rw [wadd (by omega) (by omega)]; omega
  simp only [e1, e2, e3, natOf_nat]
  refine ⟨idx_ok hb, _, uAm hb, _, uAh hb, _, uAl hb, _, uAk hb, idx_ok ha, _, uAm ha, _, uAh ha, _, uAl ha, _, uAk ha, idx_ok ha, uDf ha rfl, idx_ok hb, by rw [uFl (x := m[B + k]) ha]; exact uDf hb (by simp), trivial, trivial, trivial, Stab.sw m (A + k) (B + k), uSw ha hb, (by trivial), ?_⟩
  have hl := Stab.sw_len m (A + k) (B + k)
  refine ⟨⟨A, B, q, k + 1, rfl, rfl, rfl, rfl, hl.symm, by omega, by omega, by omega, by omega⟩, by show q - (k + 1) < q - k; omega, fun _ d2 hr => ?_, trivial⟩
  exact ⟨hr.1.trans hl, Stab.SwapR.step (a := A + k) (b := B + k) (n := q - k) (by omega) hr.2⟩
 ·rename_i h
  refine ⟨trivial, m, rfl, (by trivial), rfl, ?_⟩
  show Stab.SwapR m (A + k) (B + k) (q - k) m
  rw [show q - k = 0 by omega]
  exact Stab.SwapR.zero m _ _
theorem swrLOk : LoopOk PP 86 38 (.loop (loopBody PP 86 1)) (uR6) := loop_ok uSz  mixed (KLS_ok (cc_nil)) rfl (steps_cons swrLStep (steps_nil))
abbrev uE8 := uBa × Int × Int × Int × Unit × Unit
abbrev swrZ := uE8 × uAb
noncomputable def swrT : Tel uE8 := .cons 0 (.slq 0 4) (.ji 1 (.ji 2 (.ji 3 (.cons 4 (.fnp 43 []) (.nil)))))
noncomputable def uUc : BTel uAb := .cons (.rows Ec 42) (.nil)
noncomputable def uNs (R0 : swrZ → (Unit) → uAb → Prop) : List (Res swrZ) := [⟨Unit, uAb, .nil, .cons (.rows Ec 42) (.nil), R0⟩]
theorem swrFn (d : Nat × Nat) (a b n : Int) (m : List Cd) (R0 : swrZ → (Unit) → uAb → Prop) : (callW PP (runW PP (KLS [] [(86, [(1, uR6)])] 42) 200) 86 (swrT.cells id (d, a, b, n, (), ())) (stL false (uUc.obs id (m, ()))) (fun v st => resAny 1 ((d, a, b, n, (), ()), m, ()) v st (uNs R0))) = ( LoopOk PP 86 38 (loopBody PP 86 1).loop uR6 ∧ True ∧ True ∧ ∃ l, Sa Ec m l ∧ true = true ∧ uI2 ((d, a, b, n, 0, ()), l, ()) ∧ (∀ c d_1, uNv ((d, a, b, n, 0, ()), l, ()) c d_1 → ∃ l, Sa Ec d_1.1 l ∧ true = true ∧ R0 ((d, a, b, n, (), ()), m, ()) () (l, ())) ∧ True) := by kernel_rfl
def uHx : swrZ → Prop := fun ((d, a, b, n, (), ()), m, ()) => ∃ A B n2 : Nat, a = A ∧ b = B ∧ n = n2 ∧ d.1 = m.length ∧ A + n2 ≤ m.length ∧ B + n2 ≤ m.length ∧ m.length ≤ 1000000
def uNt : swrZ → (Unit) → uAb → Prop := fun ((d, a, b, n, (), ()), m, ()) _ (m2, _) => m2.length = m.length ∧ Stab.SwapR m a.toNat b.toNat n.toNat m2
noncomputable def swrK : CallC := callC 1 swrT uUc uHx (uNs uNt)
theorem swrStep (z : swrZ) (hp : uHx z) : callW PP (runW PP (KLS [] [(86, [(1, uR6)])] 42) 200) 86 (swrT.cells id z.1) (stL false (uUc.obs id z.2)) (fun v st => resAny 1 z v st (uNs uNt)) := by
 obtain ⟨⟨d, a, b, n, _, _⟩, ⟨m, _⟩⟩ := z
 refine (swrFn d a b n m _).mpr ?_
 obtain ⟨A, B, q, rfl, rfl, rfl, hd, hA, hB, hm⟩ := hp
 refine ⟨swrLOk, trivial, trivial, m, rfl, (by trivial), ⟨A, B, q, 0, rfl, rfl, rfl, rfl, hd, Nat.zero_le _, by omega, by omega, hm⟩, fun _ d1 hr => ?_, trivial⟩
 obtain ⟨m2, _⟩ := d1
 exact ⟨m2, rfl, (by trivial), hr⟩
theorem uW8 : CcOk PP 86 swrK := call_ok mixed (KLS_ok (cc_nil)) rfl swrStep
abbrev uHz := (uBa × Int × Unit × Int × Int × Unit) × uAb
noncomputable def uOn : Tel (uBa × Int × Unit × Int × Int × Unit) := .cons 0 (.slq 0 4) (.ji 2 (.cons 4 (.fnp 43 []) (.ji 10 (.ji 11 (.nil)))))
noncomputable def uOq : BTel uAb := .cons (.rows Ec 42) (.nil)
noncomputable def uOp : List (LForm uHz) := [⟨_, _, uOn, uOq, fun x y => (x, y)⟩]
abbrev uSd := uBa × Int × Unit × Int × Unit
noncomputable def uF7 (R0 : uHz → uSd → uAb → Prop) : List (Alt uHz) := [⟨.exit 0, uSd, uAb, .cons 0 (.slq 0 4) (.ji 2 (.cons 4 (.fnp 43 []) (.ji 10 (.nil)))), .cons (.rows Ec 42) (.nil), R0⟩]
theorem rotLForm (d : Nat × Nat) (p i j : Int) (m : List Cd) (N : uHz → Prop) (R0 : uHz → uSd → uAb → Prop) : ((runW PP (KLS [(86, swrK)] [] 42) 100).code none 79 58 (loopBody PP 79 2) (mkT (uOn.av id (d, p, (), i, j, ()))) [] (stL false (uOq.obs id (m, ()))) (postL 1 uOp (uF7 R0) ((d, p, (), i, j, ()), m, ()) N)) = ( ifp (!eqInt i j) (ifp (!leInt i j) (∃ l, Sa Ec m l ∧ true = true ∧ uHx ((d, wrapF .i64 (p.sub i), p, j, (), ()), l, ()) ∧ (∀ c d_1, uNt ((d, wrapF .i64 (p.sub i), p, j, (), ()), l, ()) c d_1 → True ∧ ∃ l, Sa Ec d_1.1 l ∧ true = true ∧ N ((d, p, (), wrapF .i64 (i.sub j), j, ()), l, ())) ∧ True) (∃ l, Sa Ec m l ∧ true = true ∧ uHx ((d, wrapF .i64 (p.sub i), wrapF .i64 ((wrapF .i64 (p.add j)).sub i), i, (), ()), l, ()) ∧ (∀ c d_1, uNt ((d, wrapF .i64 (p.sub i), wrapF .i64 ((wrapF .i64 (p.add j)).sub i), i, (), ()), l, ()) c d_1 → True ∧ ∃ l, Sa Ec d_1.1 l ∧ true = true ∧ N ((d, p, (), i, wrapF .i64 (j.sub i), ()), l, ())) ∧ True)) (True ∧ ∃ l, Sa Ec m l ∧ true = true ∧ R0 ((d, p, (), i, j, ()), m, ()) (d, p, (), i, ()) (l, ()))) := by kernel_rfl
def uJw : uHz → Prop := fun ((d, p, (), i, j, ()), m, ()) => ∃ M I J : Nat, p = M ∧ i = I ∧ j = J ∧ 0 < I ∧ 0 < J ∧ I ≤ M ∧ M + J ≤ m.length ∧ d.1 = m.length ∧ m.length ≤ 1000000
def uS6 : uHz → Nat := fun ((d, p, (), i, j, ()), m, ()) => i.toNat + j.toNat
def uOo : uHz → uSd → uAb → Prop := fun ((d, p, (), i, j, ()), m, ()) (d2, p2, _, i2, _) (m2, _) => d2.1 = m2.length ∧ p2 = p ∧ m2.length = m.length ∧ 0 < i2 ∧ i2 ≤ p ∧ p + i2 ≤ m.length ∧ ∀ m3, Stab.SwapR m2 (p.toNat - i2.toNat) p.toNat i2.toNat m3 → Stab.RotR m (p.toNat - i.toNat) p.toNat (p.toNat + j.toNat) m3
noncomputable def uR9 : LoopC := loopC 1 uOp (uF7 uOo) uJw
theorem rotLStep : stepsOk PP (KLS [(86, swrK)] [] 42) 100 79 58 (loopBody PP 79 2) 1 false uOp (uF7 uOo) uJw uS6 ⟨_, _, uOn, uOq, fun x y => (x, y)⟩ := by
 intro x y hz
 obtain ⟨d, p, _, i, j, _⟩ := x
 obtain ⟨m, _⟩ := y
 refine (rotLForm d p i j m _ _).mpr ?_
 obtain ⟨M, I, J, rfl, rfl, rfl, h1, h2, h3, h4, hd, hm⟩ := hz
 obtain ⟨d1, d2⟩ := d
 obtain rfl : d1 = m.length := hd
 rw [ifp_ne]
 split
 ·rename_i h
  obtain rfl : I = J := by omega
  exact ⟨trivial, m, rfl, (by trivial), rfl, rfl, rfl, by omega, by omega, by omega, fun m3 h5 => Stab.RotR.last h3 h5⟩
 ·rename_i h
  have e1 : wrapF .i64 (Int.sub (M : Int) (I : Int)) = ((M - I : Nat) : Int) := by rw [wsub (by omega) (by omega)]; omega
  rw [ifp_lt]
  split
  ·rename_i hji
   have e2 : wrapF .i64 (Int.sub (I : Int) (J : Int)) = ((I - J : Nat) : Int) := by rw [wsub (by omega) (by omega)]; omega
   simp only [e1, e2]
   refine ⟨m, rfl, (by trivial), ⟨M - I, M, J, rfl, rfl, rfl, rfl, by omega, by omega, hm⟩, fun _ d1 hr => ?_, trivial⟩
   obtain ⟨m2, _⟩ := d1
   obtain ⟨hl, hs⟩ := hr
   replace hl : m2.length = m.length := hl
   refine ⟨trivial, m2, rfl, (by trivial), ⟨M, I - J, J, rfl, rfl, rfl, by omega, h2, by omega, by omega, hl.symm, by omega⟩, by show (I - J) + J < I + J; omega, fun c d2 hr2 => ?_, trivial⟩
   obtain ⟨dd, p2, _, i2, _⟩ := c
   obtain ⟨m3, _⟩ := d2
   obtain ⟨r1, r2, r3, r4, r5, r6, r7⟩ := hr2
   exact ⟨r1, r2, r3.trans hl, r4, r5, by rw [← hl]; exact r6, fun m4 h6 => Stab.RotR.left h3 (by omega) hs (r7 m4 h6)⟩
  ·rename_i hji
   have e2 : wrapF .i64 (Int.sub (wrapF .i64 (Int.add (M : Int) (J : Int))) (I : Int)) = ((M + J - I : Nat) : Int) := by
    rw [wadd (a := (M : Int)) (by omega) (by omega), wsub (by omega) (by omega)]; omega
   have e3 : wrapF .i64 (Int.sub (J : Int) (I : Int)) = ((J - I : Nat) : Int) := by rw [wsub (by omega) (by omega)]; omega
   simp only [e1, e2, e3]
   refine ⟨m, rfl, (by trivial), ⟨M - I, M + J - I, I, rfl, rfl, rfl, rfl, by omega, by omega, hm⟩, fun _ d1 hr => ?_, trivial⟩
   obtain ⟨m2, _⟩ := d1
   obtain ⟨hl, hs⟩ := hr
   replace hl : m2.length = m.length := hl
   refine ⟨trivial, m2, rfl, (by trivial), ⟨M, I, J - I, rfl, rfl, rfl, h1, by omega, h3, by omega, hl.symm, by omega⟩, by show I + (J - I) < I + J; omega, fun c d2 hr2 => ?_, trivial⟩
   obtain ⟨dd, p2, _, i2, _⟩ := c
   obtain ⟨m3, _⟩ := d2
   obtain ⟨r1, r2, r3, r4, r5, r6, r7⟩ := hr2
   exact ⟨r1, r2, r3.trans hl, r4, r5, by rw [← hl]; exact r6, fun m4 h6 => Stab.RotR.right h3 (by omega) hs (r7 m4 h6)⟩
theorem rotLOk : LoopOk PP 79 58 (.loop (loopBody PP 79 2)) (uR9) := loop_ok uS6  mixed (KLS_ok (cc_cons uW8 (cc_nil))) rfl (steps_cons rotLStep (steps_nil))
abbrev rotZ := uE8 × uAb
noncomputable def rotT : Tel uE8 := .cons 0 (.slq 0 4) (.ji 1 (.ji 2 (.ji 3 (.cons 4 (.fnp 43 []) (.nil)))))
noncomputable def uVc : BTel uAb := .cons (.rows Ec 42) (.nil)
noncomputable def uOm (R0 : rotZ → (Unit) → uAb → Prop) : List (Res rotZ) := [⟨Unit, uAb, .nil, .cons (.rows Ec 42) (.nil), R0⟩]
theorem rotFn (d : Nat × Nat) (a b n : Int) (m : List Cd) (R0 : rotZ → (Unit) → uAb → Prop) : (callW PP (runW PP (KLS [(86, swrK)] [(79, [(2, uR9)])] 42) 200) 79 (rotT.cells id (d, a, b, n, (), ())) (stL false (uVc.obs id (m, ()))) (fun v st => resAny 1 ((d, a, b, n, (), ()), m, ()) v st (uOm R0))) = ( LoopOk PP 79 58 (loopBody PP 79 2).loop uR9 ∧ True ∧ True ∧ ∃ l, Sa Ec m l ∧ true = true ∧ uJw ((d, b, (), wrapF .i64 (b.sub a), wrapF .i64 (n.sub b), ()), l, ()) ∧ (∀ c d_1, uOo ((d, b, (), wrapF .i64 (b.sub a), wrapF .i64 (n.sub b), ()), l, ()) c d_1 → ∃ l, Sa Ec d_1.1 l ∧ true = true ∧ uHx ((c.1, wrapF .i64 (c.2.1.sub c.2.2.2.1), c.2.1, c.2.2.2.1, (), ()), l, ()) ∧ (∀ c_1 d_2, uNt ((c.1, wrapF .i64 (c.2.1.sub c.2.2.2.1), c.2.1, c.2.2.2.1, (), ()), l, ()) c_1 d_2 → ∃ l, Sa Ec d_2.1 l ∧ true = true ∧ R0 ((d, a, b, n, (), ()), m, ()) () (l, ())) ∧ True) ∧ True) := by kernel_rfl
def uLt : rotZ → Prop := fun ((d, a, b, n, (), ()), m, ()) => ∃ A M B : Nat, a = A ∧ b = M ∧ n = B ∧ A < M ∧ M < B ∧ B ≤ m.length ∧ d.1 = m.length ∧ m.length ≤ 1000000
def uR8 : rotZ → (Unit) → uAb → Prop := fun ((d, a, b, n, (), ()), m, ()) _ (m2, _) => m2.length = m.length ∧ Stab.RotR m a.toNat b.toNat n.toNat m2
noncomputable def rotK : CallC := callC 1 rotT uVc uLt (uOm uR8)
theorem rotStep (z : rotZ) (hp : uLt z) : callW PP (runW PP (KLS [(86, swrK)] [(79, [(2, uR9)])] 42) 200) 79 (rotT.cells id z.1) (stL false (uVc.obs id z.2)) (fun v st => resAny 1 z v st (uOm uR8)) := by
 obtain ⟨⟨d, a, b, n, _, _⟩, ⟨m, _⟩⟩ := z
 refine (rotFn d a b n m _).mpr ?_
 obtain ⟨A, M, B, rfl, rfl, rfl, h1, h2, h3, hd, hm⟩ := hp
 have e1 : wrapF .i64 (Int.sub (M : Int) (A : Int)) = ((M - A : Nat) : Int) := by rw [wsub (by omega) (by omega)]; omega
 have e2 : wrapF .i64 (Int.sub (B : Int) (M : Int)) = ((B - M : Nat) : Int) := by rw [wsub (by omega) (by omega)]; omega
 simp only [e1, e2]
 refine ⟨rotLOk, trivial, trivial, m, rfl, (by trivial), ⟨M, M - A, B - M, rfl, rfl, rfl, by omega, by omega, by omega, by omega, hd, hm⟩, fun c d1 hr => ?_, trivial⟩
 obtain ⟨d2, p2, _, i2, _⟩ := c
 obtain ⟨m2, _⟩ := d1
 obtain ⟨r1, r2, r3, r4, r5, r6, r7⟩ := hr
 obtain rfl : p2 = (M : Int) := r2
 obtain ⟨I, rfl⟩ := Int.eq_ofNat_of_zero_le (show 0 ≤ i2 from by have : 0 < i2 := r4; omega)
 replace r5 : (I : Int) ≤ (M : Int) := r5
 replace r3 : m2.length = m.length := r3
 replace r6 : (M : Int) + (I : Int) ≤ (m.length : Int) := r6
 have e3 : wrapF .i64 (Int.sub (M : Int) (I : Int)) = ((M - I : Nat) : Int) := by rw [wsub (by omega) (by omega)]; omega
 simp only [e3]
 refine ⟨m2, rfl, (by trivial), ⟨M - I, M, I, rfl, rfl, rfl, r1, by omega, by omega, by omega⟩, fun _ d3 hr3 => ?_, trivial⟩
 obtain ⟨m3, _⟩ := d3
 obtain ⟨hl3, hs3⟩ := hr3
 refine ⟨m3, rfl, (by trivial), hl3.trans r3, ?_⟩
 have h8 : Stab.RotR m (M - (M - A)) M (M + (B - M)) m3 := r7 m3 hs3
 rw [show M - (M - A) = A by omega, show M + (B - M) = B by omega] at h8
 exact h8
theorem rotCc : CcOk PP 79 rotK := call_ok mixed (KLS_ok (cc_cons uW8 (cc_nil))) rfl rotStep
abbrev isjZ := (uBa × Int × Int × Unit × Int × Int × Unit) × uAb
noncomputable def uWi : Tel (uBa × Int × Int × Unit × Int × Int × Unit) := .cons 0 (.slq 0 4) (.ji 1 (.ji 2 (.cons 3 (.fnp 43 []) (.ji 8 (.ji 9 (.nil))))))
noncomputable def uWl : BTel uAb := .cons (.rows Ec 42) (.nil)
noncomputable def uWk : List (LForm isjZ) := [⟨_, _, uWi, uWl, fun x y => (x, y)⟩]
abbrev uM5 := uBa × Int × Int × Unit × Int × Unit
noncomputable def uK5 (R0 : isjZ → uM5 → uAb → Prop) : List (Alt isjZ) := [⟨.exit 2, uM5, uAb, .cons 0 (.slq 0 4) (.ji 1 (.ji 2 (.cons 3 (.fnp 43 []) (.ji 8 (.nil))))), .cons (.rows Ec 42) (.nil), R0⟩]
noncomputable abbrev uDb := KLS [(43, uIu)] [] 42
theorem isjForm (d : Nat × Nat) (a b i j : Int) (m : List Cd) (N : isjZ → Prop) (R0 : isjZ → uM5 → uAb → Prop) : ((runW PP uDb 100).code none 65 53 (loopBody PP 65 4) (mkT (uWi.av id (d, a, b, (), i, j, ()))) [] (stL false (uWl.obs id (m, ()))) (postL 1 uWk (uK5 R0) ((d, a, b, (), i, j, ()), m, ()) N)) = ( ifp (!leInt j a) (idxOk j d.1 ∧ ∃ x : Int, nth ((Nat.add 0 ((natOf j).mul 4)).add 0) (m.flatMap Ec.f) = some (I64 x) ∧ ∃ x_1 : Int, nth ((Nat.add 0 ((natOf j).mul 4)).add 1) (m.flatMap Ec.f) = some (I64 x_1) ∧ ∃ x_2 : Int, nth ((Nat.add 0 ((natOf j).mul 4)).add 2) (m.flatMap Ec.f) = some (I64 x_2) ∧ ∃ x_3 : Int, nth ((Nat.add 0 ((natOf j).mul 4)).add 3) (m.flatMap Ec.f) = some (I64 x_3) ∧ idxOk (wrapF .i64 (j.sub 1)) d.1 ∧ ∃ x_4 : Int, nth ((Nat.add 0 ((natOf (wrapF .i64 (j.sub 1))).mul 4)).add 0) (m.flatMap Ec.f) = some (I64 x_4) ∧ ∃ x_5 : Int, nth ((Nat.add 0 ((natOf (wrapF .i64 (j.sub 1))).mul 4)).add 1) (m.flatMap Ec.f) = some (I64 x_5) ∧ ∃ x_6 : Int, nth ((Nat.add 0 ((natOf (wrapF .i64 (j.sub 1))).mul 4)).add 2) (m.flatMap Ec.f) = some (I64 x_6) ∧ ∃ x_7 : Int, nth ((Nat.add 0 ((natOf (wrapF .i64 (j.sub 1))).mul 4)).add 3) (m.flatMap Ec.f) = some (I64 x_7) ∧ ∃ a_1 : Cd, Ag4 x x_1 x_2 x_3 a_1 ∧ ∃ a_2 : Cd, Ag4 x_4 x_5 x_6 x_7 a_2 ∧ uC6 (a_1, a_2, ()) ∧ ifp (!leInt 0 (uEu a_1 a_2)) (True ∧ True ∧ idxOk (wrapF .i64 (j.sub 1)) d.1 ∧ ∃ x : Int, nth ((Nat.add 0 ((natOf (wrapF .i64 (j.sub 1))).mul 4)).add 0) (m.flatMap Ec.f) = some (I64 x) ∧ ∃ x_8 : Int, nth ((Nat.add 0 ((natOf (wrapF .i64 (j.sub 1))).mul 4)).add 1) (m.flatMap Ec.f) = some (I64 x_8) ∧ ∃ x_9 : Int, nth ((Nat.add 0 ((natOf (wrapF .i64 (j.sub 1))).mul 4)).add 2) (m.flatMap Ec.f) = some (I64 x_9) ∧ ∃ x_10 : Int, nth ((Nat.add 0 ((natOf (wrapF .i64 (j.sub 1))).mul 4)).add 3) (m.flatMap Ec.f) = some (I64 x_10) ∧ idxOk j d.1 ∧ ∃ x_11 : Int, nth ((Nat.add 0 ((natOf j).mul 4)).add 0) (m.flatMap Ec.f) = some (I64 x_11) ∧ ∃ x_12 : Int, nth ((Nat.add 0 ((natOf j).mul 4)).add 1) (m.flatMap Ec.f) = some (I64 x_12) ∧ ∃ x_13 : Int, nth ((Nat.add 0 ((natOf j).mul 4)).add 2) (m.flatMap Ec.f) = some (I64 x_13) ∧ ∃ x_14 : Int, nth ((Nat.add 0 ((natOf j).mul 4)).add 3) (m.flatMap Ec.f) = some (I64 x_14) ∧ idxOk j d.1 ∧ (Nat.add 0 ((natOf j).mul 4)).add 4 ≤ (m.flatMap Ec.f).length ∧ idxOk (wrapF .i64 (j.sub 1)) d.1 ∧ (Nat.add 0 ((natOf (wrapF .i64 (j.sub 1))).mul 4)).add 4 ≤ (setAt (Nat.add 0 ((natOf j).mul 4)) [I64 x, I64 x_8, I64 x_9, I64 x_10] (m.flatMap Ec.f)).length ∧ True ∧ True ∧ True ∧ ∃ (l : List Cd), setAt (Nat.add 0 ((natOf (wrapF .i64 (j.sub 1))).mul 4)) [I64 x_11, I64 x_12, I64 x_13, I64 x_14] (setAt (Nat.add 0 ((natOf j).mul 4)) [I64 x, I64 x_8, I64 x_9, I64 x_10] (m.flatMap Ec.f)) = l.flatMap Ec.f ∧ true = true ∧ N ((d, a, b, (), i, wrapF .i64 (j.sub 1), ()), l, ())) (T3 <| ∃ l, Sa Ec m l ∧ true = true ∧ R0 ((d, a, b, (), i, j, ()), m, ()) (d, a, b, (), i, ()) (l, ()))) (True ∧ ∃ l, Sa Ec m l ∧ true = true ∧ R0 ((d, a, b, (), i, j, ()), m, ()) (d, a, b, (), i, ()) (l, ()))) := by kernel_rfl
def uQ1 : isjZ → Prop := fun ((d, a, b, (), i, j, ()), m, ()) => ∃ A J : Nat, a = A ∧ j = J ∧ A ≤ J ∧ J < m.length ∧ d.1 = m.length ∧ m.length ≤ 1000000
def uXv : isjZ → Nat := fun ((d, a, b, (), i, j, ()), m, ()) => j.toNat
def uWj : isjZ → uM5 → uAb → Prop := fun ((d, a, b, (), i, j, ()), m, ()) (d2, a2, b2, _, i2, _) (m2, _) => d2.1 = m2.length ∧ a2 = a ∧ b2 = b ∧ i2 = i ∧ m2.length = m.length ∧ Stab.InsL ltC m a.toNat j.toNat m2
noncomputable def isjC : LoopC := loopC 1 uWk (uK5 uWj) uQ1
theorem isjStep : stepsOk PP uDb 100 65 53 (loopBody PP 65 4) 1 false uWk (uK5 uWj) uQ1 uXv ⟨_, _, uWi, uWl, fun x y => (x, y)⟩ := by
 intro x y hz
 obtain ⟨d, a, b, _, i, j, _⟩ := x
 obtain ⟨m, _⟩ := y
 refine (isjForm d a b i j m _ _).mpr ?_
 obtain ⟨A, J, rfl, rfl, hA, hJ, hd, hm⟩ := hz
 obtain ⟨d1, d2⟩ := d
 obtain rfl : d1 = m.length := hd
 rw [ifp_lt]
 split
 ·rename_i h
  have hp : J - 1 < m.length := by omega
  have e1 : wrapF .i64 (Int.sub (J : Int) 1) = ((J - 1 : Nat) : Int) := by rw [wsub (by omega) (by omega)]; omega
  simp only [e1, natOf_nat]
  refine ⟨idx_ok hJ, _, uAm hJ, _, uAh hJ, _, uAl hJ, _, uAk hJ, idx_ok hp, _, uAm hp, _, uAh hp, _, uAl hp, _, uAk hp, m[J], rfl, m[J - 1], rfl, trivial, ?_⟩
  rw [ifp_lt]
  split
  ·rename_i hlt
   have hlt' : ltC m[J] m[J - 1] = true := by rw [ltC]; simpa using hlt
   have hl := Stab.sw_len m J (J - 1)
   refine ⟨trivial, trivial, idx_ok hp, _, uAm hp, _, uAh hp, _, uAl hp, _, uAk hp, idx_ok hJ, _, uAm hJ, _, uAh hJ, _, uAl hJ, _, uAk hJ, idx_ok hJ, uDf hJ rfl, idx_ok hp, by rw [uFl (x := m[J - 1]) hJ]; exact uDf hp (by simp), trivial, trivial, trivial, Stab.sw m J (J - 1), uSw hJ hp, (by trivial), ⟨A, J - 1, rfl, rfl, by omega, by omega, hl.symm, by omega⟩, by show J - 1 < J; omega, fun c d2 hr => ?_, trivial⟩
   obtain ⟨dd, a2, b2, _, i2, _⟩ := c
   obtain ⟨m2, _⟩ := d2
   obtain ⟨r1, r2, r3, r4, r5, r6⟩ := hr
   exact ⟨r1, r2, r3, r4, r5.trans hl, Stab.InsL.step (by omega) hJ hlt' r6⟩
  ·rename_i hlt
   have hlt' : ltC m[J] m[J - 1] = false := by rw [ltC]; simpa using hlt
   exact ⟨trivial, trivial, trivial, m, rfl, (by trivial), rfl, rfl, rfl, rfl, rfl, Stab.InsL.stop uEy (by omega) hJ hlt'⟩
 ·rename_i h
  exact ⟨trivial, m, rfl, (by trivial), rfl, rfl, rfl, rfl, rfl, Stab.InsL.zero (by show J ≤ A; omega)⟩
theorem isjOk : LoopOk PP 65 53 (.loop (loopBody PP 65 4)) (isjC) := loop_ok uXv  mixed (KLS_ok (cc_cons uEv (cc_nil))) rfl (steps_cons isjStep (steps_nil))
abbrev isiZ := uM5 × uAb
noncomputable def uWm : Tel uM5 := .cons 0 (.slq 0 4) (.ji 1 (.ji 2 (.cons 3 (.fnp 43 []) (.ji 8 (.nil)))))
noncomputable def uWp : BTel uAb := .cons (.rows Ec 42) (.nil)
noncomputable def uWo : List (LForm isiZ) := [⟨_, _, uWm, uWp, fun x y => (x, y)⟩]
noncomputable def uK6 (R0 : isiZ → (Unit) → uAb → Prop) : List (Alt isiZ) := [⟨.exit 0, Unit, uAb, .nil, .cons (.rows Ec 42) (.nil), R0⟩]
theorem isiForm (d : Nat × Nat) (a b i : Int) (m : List Cd) (N : isiZ → Prop) (R0 : isiZ → (Unit) → uAb → Prop) : ((runW PP (KLS [(43, uIu)] [(65, [(4, isjC)])] 42) 100).code none 65 53 (loopBody PP 65 1) (mkT (uWm.av id (d, a, b, (), i, ()))) [] (stL false (uWp.obs id (m, ()))) (postL 1 uWo (uK6 R0) ((d, a, b, (), i, ()), m, ()) N)) = ( ifp (!leInt b i) (LoopOk PP 65 53 (loopBody PP 65 4).loop isjC ∧ True ∧ True ∧ ∃ l, Sa Ec m l ∧ true = true ∧ uQ1 ((d, a, b, (), i, i, ()), l, ()) ∧ (∀ c d_1, uWj ((d, a, b, (), i, i, ()), l, ()) c d_1 → True ∧ ∃ l, Sa Ec d_1.1 l ∧ true = true ∧ N ((c.1, c.2.1, c.2.2.1, (), wrapF .i64 (c.2.2.2.2.1.add 1), ()), l, ())) ∧ True) (True ∧ ∃ l, Sa Ec m l ∧ true = true ∧ R0 ((d, a, b, (), i, ()), m, ()) () (l, ()))) := by kernel_rfl
def uQ2 : isiZ → Prop := fun ((d, a, b, (), i, ()), m, ()) => ∃ A B I : Nat, a = A ∧ b = B ∧ i = I ∧ A < I ∧ B ≤ m.length ∧ d.1 = m.length ∧ m.length ≤ 1000000
def uXw : isiZ → Nat := fun ((d, a, b, (), i, ()), m, ()) => b.toNat - i.toNat
def uWn : isiZ → (Unit) → uAb → Prop := fun ((d, a, b, (), i, ()), m, ()) _ (m2, _) => m2.length = m.length ∧ Stab.InsO ltC m a.toNat i.toNat b.toNat m2 ∧ (b.toNat ≤ i.toNat → m2 = m)
noncomputable def isiC : LoopC := loopC 1 uWo (uK6 uWn) uQ2
theorem isiStep : stepsOk PP (KLS [(43, uIu)] [(65, [(4, isjC)])] 42) 100 65 53 (loopBody PP 65 1) 1 false uWo (uK6 uWn) uQ2 uXw ⟨_, _, uWm, uWp, fun x y => (x, y)⟩ := by
 intro x y hz
 obtain ⟨d, a, b, _, i, _⟩ := x
 obtain ⟨m, _⟩ := y
 refine (isiForm d a b i m _ _).mpr ?_
 obtain ⟨A, B, I, rfl, rfl, rfl, h1, h2, hd, hm⟩ := hz
 rw [ifp_lt]
 split
 ·rename_i h
  refine ⟨isjOk, trivial, trivial, m, rfl, (by trivial), ⟨A, I, rfl, rfl, by omega, by omega, hd, hm⟩, fun c d1 hr => ?_, trivial⟩
  obtain ⟨dd, a2, b2, _, i2, _⟩ := c
  obtain ⟨m2, _⟩ := d1
  obtain ⟨r1, r2, r3, r4, r5, r6⟩ := hr
  obtain rfl : a2 = (A : Int) := r2
  obtain rfl : b2 = (B : Int) := r3
  obtain rfl : i2 = (I : Int) := r4
  replace r5 : m2.length = m.length := r5
  have e1 : wrapF .i64 (Int.add (I : Int) 1) = ((I + 1 : Nat) : Int) := by rw [wadd (by omega) (by omega)]; omega
  simp only [e1]
  exact ⟨trivial, m2, rfl, (by trivial), ⟨A, B, I + 1, rfl, rfl, rfl, by omega, by omega, r1, by omega⟩, by show B - (I + 1) < B - I; omega, fun _ d3 hr3 => ⟨hr3.1.trans r5, Stab.InsO.step uEy (by show I < B; omega) r6 hr3.2.1, fun hh => absurd (show B ≤ I from hh) (by omega)⟩, trivial⟩
 ·rename_i h
  exact ⟨trivial, m, rfl, (by trivial), rfl, Stab.InsO.zero (by show B ≤ I; omega), fun _ => rfl⟩
theorem isiOk : LoopOk PP 65 53 (.loop (loopBody PP 65 1)) (isiC) := loop_ok uXw  mixed (KLS_ok (cc_cons uEv (cc_nil))) rfl (steps_cons isiStep (steps_nil))
abbrev insZ := (uBa × Int × Int × Unit × Unit) × uAb
noncomputable def insT : Tel (uBa × Int × Int × Unit × Unit) := .cons 0 (.slq 0 4) (.ji 1 (.ji 2 (.cons 3 (.fnp 43 []) (.nil))))
noncomputable def uWq : BTel uAb := .cons (.rows Ec 42) (.nil)
noncomputable def uQ3 (R0 : insZ → (Unit) → uAb → Prop) : List (Res insZ) := [⟨Unit, uAb, .nil, .cons (.rows Ec 42) (.nil), R0⟩]
theorem insFn (d : Nat × Nat) (a b : Int) (m : List Cd) (R0 : insZ → (Unit) → uAb → Prop) : (callW PP (runW PP (KLS [(43, uIu)] [(65, [(1, isiC)])] 42) 200) 65 (insT.cells id (d, a, b, (), ())) (stL false (uWq.obs id (m, ()))) (fun v st => resAny 1 ((d, a, b, (), ()), m, ()) v st (uQ3 R0))) = ( LoopOk PP 65 53 (loopBody PP 65 1).loop isiC ∧ True ∧ True ∧ ∃ l, Sa Ec m l ∧ true = true ∧ uQ2 ((d, a, b, (), wrapF .i64 (a.add 1), ()), l, ()) ∧ (∀ c d_1, uWn ((d, a, b, (), wrapF .i64 (a.add 1), ()), l, ()) c d_1 → ∃ l, Sa Ec d_1.1 l ∧ true = true ∧ R0 ((d, a, b, (), ()), m, ()) () (l, ())) ∧ True) := by kernel_rfl
def uMy : insZ → Prop := fun ((d, a, b, (), ()), m, ()) => ∃ A B : Nat, a = A ∧ b = B ∧ A ≤ B ∧ B ≤ m.length ∧ d.1 = m.length ∧ m.length ≤ 1000000
def uSq : insZ → (Unit) → uAb → Prop := fun ((d, a, b, (), ()), m, ()) _ (m2, _) => m2.length = m.length ∧ Stab.SortR ltC m a.toNat b.toNat m2
noncomputable def insK : CallC := callC 1 insT uWq uMy (uQ3 uSq)
theorem insStep (z : insZ) (hp : uMy z) : callW PP (runW PP (KLS [(43, uIu)] [(65, [(1, isiC)])] 42) 200) 65 (insT.cells id z.1) (stL false (uWq.obs id z.2)) (fun v st => resAny 1 z v st (uQ3 uSq)) := by
 obtain ⟨⟨d, a, b, _, _⟩, ⟨m, _⟩⟩ := z
 refine (insFn d a b m _).mpr ?_
 obtain ⟨A, B, rfl, rfl, h1, h2, hd, hm⟩ := hp
 have e1 : wrapF .i64 (Int.add (A : Int) 1) = ((A + 1 : Nat) : Int) := by rw [wadd (by omega) (by omega)]; omega
 simp only [e1]
 refine ⟨isiOk, trivial, trivial, m, rfl, (by trivial), ⟨A, B, A + 1, rfl, rfl, rfl, by omega, h2, hd, hm⟩, fun _ d1 hr => ?_, trivial⟩
 obtain ⟨m2, _⟩ := d1
 obtain ⟨r1, r2, r3⟩ := hr
 refine ⟨m2, rfl, (by trivial), r1, ?_⟩
 rcases Nat.lt_or_ge A B with hab | hab
 ·exact Stab.SortR.ofO hab r2
 ·obtain rfl : m2 = m := r3 (show B ≤ A + 1 by omega)
  exact Stab.SortR.triv (show B ≤ A + 1 by omega)
theorem uXx : CcOk PP 65 insK := call_ok mixed (KLS_ok (cc_cons uEv (cc_nil))) rfl insStep
theorem uMr {I J : Nat} (h : I + J ≤ 4000000) : wrapF .i64 (shrV .u64 (wrapF .u64 (wrapF .i64 (Int.add (I : Int) (J : Int)))) 1) = (((I + J) / 2 : Nat) : Int) := by
 rw [wadd (by omega) (by omega), wu64 (by omega) (by omega)]
 have e1 : shrV .u64 ((I : Int) + (J : Int)) 1 = (((I + J) / 2 : Nat) : Int) := by
  show Int.fdiv ((I : Int) + (J : Int)) 2 = _
  rw [Int.fdiv_eq_ediv_of_nonneg _ (by decide)]; omega
 rw [e1, w64 (by omega) (by omega)]
abbrev uL4 := uBa × Int × Int × Int × Unit × Int × Int × Unit
abbrev sm1Z := uL4 × uAb
noncomputable def uU8 : Tel uL4 := .cons 0 (.slq 0 4) (.ji 1 (.ji 2 (.ji 3 (.cons 4 (.fnp 43 []) (.ji 10 (.ji 11 (.nil)))))))
noncomputable def uVb : BTel uAb := .cons (.rows Ec 42) (.nil)
noncomputable def uVa : List (LForm sm1Z) := [⟨_, _, uU8, uVb, fun x y => (x, y)⟩]
abbrev uH3 := uBa × Int × Int × Int × Unit × Int × Unit
noncomputable def uJf (R0 : sm1Z → uH3 → uAb → Prop) : List (Alt sm1Z) := [⟨.exit 0, uH3, uAb, .cons 0 (.slq 0 4) (.ji 1 (.ji 2 (.ji 3 (.cons 4 (.fnp 43 []) (.ji 10 (.nil)))))), .cons (.rows Ec 42) (.nil), R0⟩]
theorem sm1Form (d : Nat × Nat) (a p b i j : Int) (m : List Cd) (N : sm1Z → Prop) (R0 : sm1Z → uH3 → uAb → Prop) : ((runW PP uDb 100).code none 66 220 (loopBody PP 66 3) (mkT (uU8.av id (d, a, p, b, (), i, j, ()))) [] (stL false (uVb.obs id (m, ()))) (postL 1 uVa (uJf R0) ((d, a, p, b, (), i, j, ()), m, ()) N)) = ( ifp (!leInt j i) ((0 : Int) ≤ 1 ∧ idxOk (wrapF .i64 (shrV .u64 (wrapF .u64 (wrapF .i64 (i.add j))) 1)) d.1 ∧ ∃ x : Int, nth ((Nat.add 0 ((natOf (wrapF .i64 (shrV .u64 (wrapF .u64 (wrapF .i64 (i.add j))) 1))).mul 4)).add 0) (m.flatMap Ec.f) = some (I64 x) ∧ ∃ x_1 : Int, nth ((Nat.add 0 ((natOf (wrapF .i64 (shrV .u64 (wrapF .u64 (wrapF .i64 (i.add j))) 1))).mul 4)).add 1) (m.flatMap Ec.f) = some (I64 x_1) ∧ ∃ x_2 : Int, nth ((Nat.add 0 ((natOf (wrapF .i64 (shrV .u64 (wrapF .u64 (wrapF .i64 (i.add j))) 1))).mul 4)).add 2) (m.flatMap Ec.f) = some (I64 x_2) ∧ ∃ x_3 : Int, nth ((Nat.add 0 ((natOf (wrapF .i64 (shrV .u64 (wrapF .u64 (wrapF .i64 (i.add j))) 1))).mul 4)).add 3) (m.flatMap Ec.f) = some (I64 x_3) ∧ idxOk a d.1 ∧ ∃ x_4 : Int, nth ((Nat.add 0 ((natOf a).mul 4)).add 0) (m.flatMap Ec.f) = some (I64 x_4) ∧ ∃ x_5 : Int, nth ((Nat.add 0 ((natOf a).mul 4)).add 1) (m.flatMap Ec.f) = some (I64 x_5) ∧ ∃ x_6 : Int, nth ((Nat.add 0 ((natOf a).mul 4)).add 2) (m.flatMap Ec.f) = some (I64 x_6) ∧ ∃ x_7 : Int, nth ((Nat.add 0 ((natOf a).mul 4)).add 3) (m.flatMap Ec.f) = some (I64 x_7) ∧ ∃ a_1 : Cd, Ag4 x x_1 x_2 x_3 a_1 ∧ ∃ a_2 : Cd, Ag4 x_4 x_5 x_6 x_7 a_2 ∧ uC6 (a_1, a_2, ()) ∧ ifp (!leInt 0 (uEu a_1 a_2)) (T3 <| ∃ l, Sa Ec m l ∧ true = true ∧ N ((d, a, p, b, (), wrapF .i64 ((wrapF .i64 (shrV .u64 (wrapF .u64 (wrapF .i64 (i.add j))) 1)).add 1), j, ()), l, ())) (T3 <| ∃ l, Sa Ec m l ∧ true = true ∧ N ((d, a, p, b, (), i, wrapF .i64 (shrV .u64 (wrapF .u64 (wrapF .i64 (i.add j))) 1), ()), l, ()))) (True ∧ ∃ l, Sa Ec m l ∧ true = true ∧ R0 ((d, a, p, b, (), i, j, ()), m, ()) (d, a, p, b, (), i, ()) (l, ()))) := by kernel_rfl
def uOc : sm1Z → Prop := fun ((d, a, p, b, (), i, j, ()), m, ()) => ∃ A I J : Nat, a = A ∧ i = I ∧ j = J ∧ A < m.length ∧ I ≤ J ∧ J ≤ m.length ∧ d.1 = m.length ∧ m.length ≤ 1000000
def uXj : sm1Z → Nat := fun ((d, a, p, b, (), i, j, ()), m, ()) => j.toNat - i.toNat
def uU9 : sm1Z → uH3 → uAb → Prop := fun ((d, a, p, b, (), i, j, ()), m, ()) (d2, a2, p2, b2, _, i2, _) (m2, _) => d2 = d ∧ a2 = a ∧ p2 = p ∧ b2 = b ∧ m2 = m ∧ ∃ r : Nat, i2 = r ∧ Stab.BS (fun h => Stab.at_ ltC m h a.toNat) i.toNat j.toNat r
noncomputable def sm1C : LoopC := loopC 1 uVa (uJf uU9) uOc
theorem sm1Step : stepsOk PP uDb 100 66 220 (loopBody PP 66 3) 1 false uVa (uJf uU9) uOc uXj ⟨_, _, uU8, uVb, fun x y => (x, y)⟩ := by
 intro x y hz
 obtain ⟨d, a, p, b, _, i, j, _⟩ := x
 obtain ⟨m, _⟩ := y
 refine (sm1Form d a p b i j m _ _).mpr ?_
 obtain ⟨A, I, J, rfl, rfl, rfl, hA, hIJ, hJ, hd, hm⟩ := hz
 obtain ⟨d1, d2⟩ := d
 obtain rfl : d1 = m.length := hd
 rw [ifp_lt]
 split
 ·rename_i h
  have eh := uMr (I := I) (J := J) (by omega)
  obtain ⟨H, hH⟩ : ∃ H, H = (I + J) / 2 := ⟨_, rfl⟩
  rw [← hH] at eh
  have hHl : H < m.length := by omega
  have e1 : wrapF .i64 (Int.add (H : Int) 1) = ((H + 1 : Nat) : Int) := by rw [wadd (by omega) (by omega)]; omega
  simp only [eh, natOf_nat]
  refine ⟨by decide, idx_ok hHl, _, uAm hHl, _, uAh hHl, _, uAl hHl, _, uAk hHl, idx_ok hA, _, uAm hA, _, uAh hA, _, uAl hA, _, uAk hA, m[H], rfl, m[A], rfl, trivial, ?_⟩
  rw [ifp_lt]
  split
  ·rename_i hlt
   have hlt2 : ltC m[H] m[A] = true := by rw [ltC]; simpa using hlt
   simp only [e1]
   refine ⟨trivial, trivial, trivial, m, rfl, (by trivial), ⟨A, H + 1, J, rfl, rfl, rfl, hA, by omega, hJ, rfl, hm⟩, by show J - (H + 1) < J - I; omega, fun c d2 hr => ?_, trivial⟩
   obtain ⟨dd, a2, p2, b2, _, i2, _⟩ := c
   obtain ⟨m2, _⟩ := d2
   obtain ⟨r1, r2, r3, r4, r5, r, r6, r7⟩ := hr
   exact ⟨r1, r2, r3, r4, r5, r, r6, Stab.BS.up (h := H) (by show I ≤ H; omega) (by show Stab.at_ ltC m H A = _; rw [Stab.at_eq hHl hA]; exact hlt2) r7⟩
  ·rename_i hlt
   have hlt2 : ltC m[H] m[A] = false := by rw [ltC]; simpa using hlt
   refine ⟨trivial, trivial, trivial, m, rfl, (by trivial), ⟨A, I, H, rfl, rfl, rfl, hA, by omega, by omega, rfl, hm⟩, by show H - I < J - I; omega, fun c d2 hr => ?_, trivial⟩
   obtain ⟨dd, a2, p2, b2, _, i2, _⟩ := c
   obtain ⟨m2, _⟩ := d2
   obtain ⟨r1, r2, r3, r4, r5, r, r6, r7⟩ := hr
   exact ⟨r1, r2, r3, r4, r5, r, r6, Stab.BS.down (h := H) (by show H ≤ J; omega) (by show Stab.at_ ltC m H A = _; rw [Stab.at_eq hHl hA]; exact hlt2) r7⟩
 ·rename_i h
  obtain rfl : I = J := by omega
  exact ⟨trivial, m, rfl, (by trivial), rfl, rfl, rfl, rfl, rfl, I, rfl, Stab.BS.done _ _⟩
theorem sm1Ok : LoopOk PP 66 220 (.loop (loopBody PP 66 3)) (sm1C) := loop_ok uXj  mixed (KLS_ok (cc_cons uEv (cc_nil))) rfl (steps_cons sm1Step (steps_nil))
abbrev uL3 := uBa × Int × Int × Unit
abbrev sm2Z := uL3 × uAb
noncomputable def uU4 : Tel uL3 := .cons 0 (.slq 0 4) (.ji 10 (.ji 13 (.nil)))
noncomputable def uU7 : BTel uAb := .cons (.rows Ec 42) (.nil)
noncomputable def uU6 : List (LForm sm2Z) := [⟨_, _, uU4, uU7, fun x y => (x, y)⟩]
noncomputable def uJe (R0 : sm2Z → (Unit) → uAb → Prop) : List (Alt sm2Z) := [⟨.exit 2, Unit, uAb, .nil, .cons (.rows Ec 42) (.nil), R0⟩]
theorem sm2Form (d : Nat × Nat) (i k : Int) (m : List Cd) (N : sm2Z → Prop) (R0 : sm2Z → (Unit) → uAb → Prop) : ((runW PP uE9 100).code none 66 220 (loopBody PP 66 9) (mkT (uU4.av id (d, i, k, ()))) [] (stL false (uU7.obs id (m, ()))) (postL 1 uU6 (uJe R0) ((d, i, k, ()), m, ()) N)) = ( ifp (!leInt (wrapF .i64 (i.sub 1)) k) (idxOk (wrapF .i64 (k.add 1)) d.1 ∧ ∃ x : Int, nth ((Nat.add 0 ((natOf (wrapF .i64 (k.add 1))).mul 4)).add 0) (m.flatMap Ec.f) = some (I64 x) ∧ ∃ x_1 : Int, nth ((Nat.add 0 ((natOf (wrapF .i64 (k.add 1))).mul 4)).add 1) (m.flatMap Ec.f) = some (I64 x_1) ∧ ∃ x_2 : Int, nth ((Nat.add 0 ((natOf (wrapF .i64 (k.add 1))).mul 4)).add 2) (m.flatMap Ec.f) = some (I64 x_2) ∧ ∃ x_3 : Int, nth ((Nat.add 0 ((natOf (wrapF .i64 (k.add 1))).mul 4)).add 3) (m.flatMap Ec.f) = some (I64 x_3) ∧ idxOk k d.1 ∧ ∃ x_4 : Int, nth ((Nat.add 0 ((natOf k).mul 4)).add 0) (m.flatMap Ec.f) = some (I64 x_4) ∧ ∃ x_5 : Int, nth ((Nat.add 0 ((natOf k).mul 4)).add 1) (m.flatMap Ec.f) = some (I64 x_5) ∧ ∃ x_6 : Int, nth ((Nat.add 0 ((natOf k).mul 4)).add 2) (m.flatMap Ec.f) = some (I64 x_6) ∧ ∃ x_7 : Int, nth ((Nat.add 0 ((natOf k).mul 4)).add 3) (m.flatMap Ec.f) = some (I64 x_7) ∧ idxOk k d.1 ∧ (Nat.add 0 ((natOf k).mul 4)).add 4 ≤ (m.flatMap Ec.f).length ∧ idxOk (wrapF .i64 (k.add 1)) d.1 ∧ (Nat.add 0 ((natOf (wrapF .i64 (k.add 1))).mul 4)).add 4 ≤ (setAt (Nat.add 0 ((natOf k).mul 4)) [I64 x, I64 x_1, I64 x_2, I64 x_3] (m.flatMap Ec.f)).length ∧ True ∧ True ∧ True ∧ ∃ (l : List Cd), setAt (Nat.add 0 ((natOf (wrapF .i64 (k.add 1))).mul 4)) [I64 x_4, I64 x_5, I64 x_6, I64 x_7] (setAt (Nat.add 0 ((natOf k).mul 4)) [I64 x, I64 x_1, I64 x_2, I64 x_3] (m.flatMap Ec.f)) = l.flatMap Ec.f ∧ true = true ∧ N ((d, i, wrapF .i64 (k.add 1), ()), l, ())) (True ∧ ∃ l, Sa Ec m l ∧ true = true ∧ R0 ((d, i, k, ()), m, ()) () (l, ()))) := by kernel_rfl
def uOb : sm2Z → Prop := fun ((d, i, k, ()), m, ()) => ∃ I K : Nat, i = I ∧ k = K ∧ 1 ≤ I ∧ I ≤ m.length ∧ d.1 = m.length ∧ m.length ≤ 1000000
def uXi : sm2Z → Nat := fun ((d, i, k, ()), m, ()) => i.toNat - k.toNat
def uU5 : sm2Z → (Unit) → uAb → Prop := fun ((d, i, k, ()), m, ()) _ (m2, _) => m2.length = m.length ∧ Stab.MoveR m k.toNat (i.toNat - 1) m2
noncomputable def sm2C : LoopC := loopC 1 uU6 (uJe uU5) uOb
theorem sm2Step : stepsOk PP uE9 100 66 220 (loopBody PP 66 9) 1 false uU6 (uJe uU5) uOb uXi ⟨_, _, uU4, uU7, fun x y => (x, y)⟩ := by
 intro x y hz
 obtain ⟨d, i, k, _⟩ := x
 obtain ⟨m, _⟩ := y
 refine (sm2Form d i k m _ _).mpr ?_
 obtain ⟨I, K, rfl, rfl, h1, h2, hd, hm⟩ := hz
 obtain ⟨d1, d2⟩ := d
 obtain rfl : d1 = m.length := hd
 have e0 : wrapF .i64 (Int.sub (I : Int) 1) = ((I - 1 : Nat) : Int) := by rw [wsub (by omega) (by omega)]; omega
 rw [e0, ifp_lt]
 split
 ·rename_i h
  have hk : K < m.length := by omega
  have hk1 : K + 1 < m.length := by omega
  have e1 : wrapF .i64 (Int.add (K : Int) 1) = ((K + 1 : Nat) : Int) := by rw [wadd (by omega) (by omega)]; omega
  have hl := Stab.sw_len m K (K + 1)
  simp only [e1, natOf_nat]
  exact ⟨idx_ok hk1, _, uAm hk1, _, uAh hk1, _, uAl hk1, _, uAk hk1, idx_ok hk, _, uAm hk, _, uAh hk, _, uAl hk, _, uAk hk, idx_ok hk, uDf hk rfl, idx_ok hk1, by rw [uFl (x := m[K + 1]) hk]; exact uDf hk1 (by simp), trivial, trivial, trivial, Stab.sw m K (K + 1), uSw hk hk1, (by trivial), ⟨I, K + 1, rfl, rfl, h1, by omega, hl.symm, by omega⟩, by show I - (K + 1) < I - K; omega, fun _ d2 hr => ⟨hr.1.trans hl, Stab.MoveR.step (by show K < I - 1; omega) hr.2⟩, trivial⟩
 ·rename_i h
  exact ⟨trivial, m, rfl, (by trivial), rfl, Stab.MoveR.zero (by show I - 1 ≤ K; omega)⟩
theorem sm2Ok : LoopOk PP 66 220 (.loop (loopBody PP 66 9)) (sm2C) := loop_ok uXi  mixed (KLS_ok (cc_nil)) rfl (steps_cons sm2Step (steps_nil))
abbrev sm3Z := uL4 × uAb
noncomputable def uU0 : Tel uL4 := .cons 0 (.slq 0 4) (.ji 1 (.ji 2 (.ji 3 (.cons 4 (.fnp 43 []) (.ji 14 (.ji 15 (.nil)))))))
noncomputable def uU3 : BTel uAb := .cons (.rows Ec 42) (.nil)
noncomputable def uU2 : List (LForm sm3Z) := [⟨_, _, uU0, uU3, fun x y => (x, y)⟩]
noncomputable def uJd (R0 : sm3Z → uH3 → uAb → Prop) : List (Alt sm3Z) := [⟨.exit 4, uH3, uAb, .cons 0 (.slq 0 4) (.ji 1 (.ji 2 (.ji 3 (.cons 4 (.fnp 43 []) (.ji 14 (.nil)))))), .cons (.rows Ec 42) (.nil), R0⟩]
theorem sm3Form (d : Nat × Nat) (a p b i j : Int) (m : List Cd) (N : sm3Z → Prop) (R0 : sm3Z → uH3 → uAb → Prop) : ((runW PP uDb 100).code none 66 220 (loopBody PP 66 15) (mkT (uU0.av id (d, a, p, b, (), i, j, ()))) [] (stL false (uU3.obs id (m, ()))) (postL 1 uU2 (uJd R0) ((d, a, p, b, (), i, j, ()), m, ()) N)) = ( ifp (!leInt j i) ((0 : Int) ≤ 1 ∧ idxOk p d.1 ∧ ∃ x : Int, nth ((Nat.add 0 ((natOf p).mul 4)).add 0) (m.flatMap Ec.f) = some (I64 x) ∧ ∃ x_1 : Int, nth ((Nat.add 0 ((natOf p).mul 4)).add 1) (m.flatMap Ec.f) = some (I64 x_1) ∧ ∃ x_2 : Int, nth ((Nat.add 0 ((natOf p).mul 4)).add 2) (m.flatMap Ec.f) = some (I64 x_2) ∧ ∃ x_3 : Int, nth ((Nat.add 0 ((natOf p).mul 4)).add 3) (m.flatMap Ec.f) = some (I64 x_3) ∧ idxOk (wrapF .i64 (shrV .u64 (wrapF .u64 (wrapF .i64 (i.add j))) 1)) d.1 ∧ ∃ x_4 : Int, nth ((Nat.add 0 ((natOf (wrapF .i64 (shrV .u64 (wrapF .u64 (wrapF .i64 (i.add j))) 1))).mul 4)).add 0) (m.flatMap Ec.f) = some (I64 x_4) ∧ ∃ x_5 : Int, nth ((Nat.add 0 ((natOf (wrapF .i64 (shrV .u64 (wrapF .u64 (wrapF .i64 (i.add j))) 1))).mul 4)).add 1) (m.flatMap Ec.f) = some (I64 x_5) ∧ ∃ x_6 : Int, nth ((Nat.add 0 ((natOf (wrapF .i64 (shrV .u64 (wrapF .u64 (wrapF .i64 (i.add j))) 1))).mul 4)).add 2) (m.flatMap Ec.f) = some (I64 x_6) ∧ ∃ x_7 : Int, nth ((Nat.add 0 ((natOf (wrapF .i64 (shrV .u64 (wrapF .u64 (wrapF .i64 (i.add j))) 1))).mul 4)).add 3) (m.flatMap Ec.f) = some (I64 x_7) ∧ ∃ a_1 : Cd, Ag4 x x_1 x_2 x_3 a_1 ∧ ∃ a_2 : Cd, Ag4 x_4 x_5 x_6 x_7 a_2 ∧ uC6 (a_1, a_2, ()) ∧ ifp (!leInt 0 (uEu a_1 a_2)) (T3 <| ∃ l, Sa Ec m l ∧ true = true ∧ N ((d, a, p, b, (), i, wrapF .i64 (shrV .u64 (wrapF .u64 (wrapF .i64 (i.add j))) 1), ()), l, ())) (T3 <| ∃ l, Sa Ec m l ∧ true = true ∧ N ((d, a, p, b, (), wrapF .i64 ((wrapF .i64 (shrV .u64 (wrapF .u64 (wrapF .i64 (i.add j))) 1)).add 1), j, ()), l, ()))) (True ∧ ∃ l, Sa Ec m l ∧ true = true ∧ R0 ((d, a, p, b, (), i, j, ()), m, ()) (d, a, p, b, (), i, ()) (l, ()))) := by kernel_rfl
def uOa : sm3Z → Prop := fun ((d, a, p, b, (), i, j, ()), m, ()) => ∃ M I J : Nat, p = M ∧ i = I ∧ j = J ∧ M < m.length ∧ I ≤ J ∧ J ≤ m.length ∧ d.1 = m.length ∧ m.length ≤ 1000000
def uXh : sm3Z → Nat := fun ((d, a, p, b, (), i, j, ()), m, ()) => j.toNat - i.toNat
def uU1 : sm3Z → uH3 → uAb → Prop := fun ((d, a, p, b, (), i, j, ()), m, ()) (d2, a2, p2, b2, _, i2, _) (m2, _) => d2 = d ∧ a2 = a ∧ p2 = p ∧ b2 = b ∧ m2 = m ∧ ∃ r : Nat, i2 = r ∧ Stab.BS (fun h => !Stab.at_ ltC m p.toNat h) i.toNat j.toNat r
noncomputable def sm3C : LoopC := loopC 1 uU2 (uJd uU1) uOa
theorem sm3Step : stepsOk PP uDb 100 66 220 (loopBody PP 66 15) 1 false uU2 (uJd uU1) uOa uXh ⟨_, _, uU0, uU3, fun x y => (x, y)⟩ := by
 intro x y hz
 obtain ⟨d, a, p, b, _, i, j, _⟩ := x
 obtain ⟨m, _⟩ := y
 refine (sm3Form d a p b i j m _ _).mpr ?_
 obtain ⟨M, I, J, rfl, rfl, rfl, hM, hIJ, hJ, hd, hm⟩ := hz
 obtain ⟨d1, d2⟩ := d
 obtain rfl : d1 = m.length := hd
 rw [ifp_lt]
 split
 ·rename_i h
  have eh := uMr (I := I) (J := J) (by omega)
  obtain ⟨H, hH⟩ : ∃ H, H = (I + J) / 2 := ⟨_, rfl⟩
  rw [← hH] at eh
  have hHl : H < m.length := by omega
  have e1 : wrapF .i64 (Int.add (H : Int) 1) = ((H + 1 : Nat) : Int) := by rw [wadd (by omega) (by omega)]; omega
  simp only [eh, natOf_nat]
  refine ⟨by decide, idx_ok hM, _, uAm hM, _, uAh hM, _, uAl hM, _, uAk hM, idx_ok hHl, _, uAm hHl, _, uAh hHl, _, uAl hHl, _, uAk hHl, m[M], rfl, m[H], rfl, trivial, ?_⟩
  rw [ifp_lt]
  split
  ·rename_i hlt
   have hlt2 : ltC m[M] m[H] = true := by rw [ltC]; simpa using hlt
   refine ⟨trivial, trivial, trivial, m, rfl, (by trivial), ⟨M, I, H, rfl, rfl, rfl, hM, by omega, by omega, rfl, hm⟩, by show H - I < J - I; omega, fun c d2 hr => ?_, trivial⟩
   obtain ⟨dd, a2, p2, b2, _, i2, _⟩ := c
   obtain ⟨m2, _⟩ := d2
   obtain ⟨r1, r2, r3, r4, r5, r, r6, r7⟩ := hr
   exact ⟨r1, r2, r3, r4, r5, r, r6, Stab.BS.down (h := H) (by show H ≤ J; omega) (by show (!Stab.at_ ltC m M H) = _; rw [Stab.at_eq hM hHl, hlt2]; rfl) r7⟩
  ·rename_i hlt
   have hlt2 : ltC m[M] m[H] = false := by rw [ltC]; simpa using hlt
   simp only [e1]
   refine ⟨trivial, trivial, trivial, m, rfl, (by trivial), ⟨M, H + 1, J, rfl, rfl, rfl, hM, by omega, hJ, rfl, hm⟩, by show J - (H + 1) < J - I; omega, fun c d2 hr => ?_, trivial⟩
   obtain ⟨dd, a2, p2, b2, _, i2, _⟩ := c
   obtain ⟨m2, _⟩ := d2
   obtain ⟨r1, r2, r3, r4, r5, r, r6, r7⟩ := hr
   exact ⟨r1, r2, r3, r4, r5, r, r6, Stab.BS.up (h := H) (by show I ≤ H; omega) (by show (!Stab.at_ ltC m M H) = _; rw [Stab.at_eq hM hHl, hlt2]; rfl) r7⟩
 ·rename_i h
  obtain rfl : I = J := by omega
  exact ⟨trivial, m, rfl, (by trivial), rfl, rfl, rfl, rfl, rfl, I, rfl, Stab.BS.done _ _⟩
theorem sm3Ok : LoopOk PP 66 220 (.loop (loopBody PP 66 15)) (sm3C) := loop_ok uXh  mixed (KLS_ok (cc_cons uEv (cc_nil))) rfl (steps_cons sm3Step (steps_nil))
abbrev sm4Z := uL3 × uAb
noncomputable def uUw : Tel uL3 := .cons 0 (.slq 0 4) (.ji 14 (.ji 17 (.nil)))
noncomputable def uUz : BTel uAb := .cons (.rows Ec 42) (.nil)
noncomputable def uUy : List (LForm sm4Z) := [⟨_, _, uUw, uUz, fun x y => (x, y)⟩]
noncomputable def uJc (R0 : sm4Z → (Unit) → uAb → Prop) : List (Alt sm4Z) := [⟨.exit 6, Unit, uAb, .nil, .cons (.rows Ec 42) (.nil), R0⟩]
theorem sm4Form (d : Nat × Nat) (i k : Int) (m : List Cd) (N : sm4Z → Prop) (R0 : sm4Z → (Unit) → uAb → Prop) : ((runW PP uE9 100).code none 66 220 (loopBody PP 66 21) (mkT (uUw.av id (d, i, k, ()))) [] (stL false (uUz.obs id (m, ()))) (postL 1 uUy (uJc R0) ((d, i, k, ()), m, ()) N)) = ( ifp (!leInt k i) (idxOk (wrapF .i64 (k.sub 1)) d.1 ∧ ∃ x : Int, nth ((Nat.add 0 ((natOf (wrapF .i64 (k.sub 1))).mul 4)).add 0) (m.flatMap Ec.f) = some (I64 x) ∧ ∃ x_1 : Int, nth ((Nat.add 0 ((natOf (wrapF .i64 (k.sub 1))).mul 4)).add 1) (m.flatMap Ec.f) = some (I64 x_1) ∧ ∃ x_2 : Int, nth ((Nat.add 0 ((natOf (wrapF .i64 (k.sub 1))).mul 4)).add 2) (m.flatMap Ec.f) = some (I64 x_2) ∧ ∃ x_3 : Int, nth ((Nat.add 0 ((natOf (wrapF .i64 (k.sub 1))).mul 4)).add 3) (m.flatMap Ec.f) = some (I64 x_3) ∧ idxOk k d.1 ∧ ∃ x_4 : Int, nth ((Nat.add 0 ((natOf k).mul 4)).add 0) (m.flatMap Ec.f) = some (I64 x_4) ∧ ∃ x_5 : Int, nth ((Nat.add 0 ((natOf k).mul 4)).add 1) (m.flatMap Ec.f) = some (I64 x_5) ∧ ∃ x_6 : Int, nth ((Nat.add 0 ((natOf k).mul 4)).add 2) (m.flatMap Ec.f) = some (I64 x_6) ∧ ∃ x_7 : Int, nth ((Nat.add 0 ((natOf k).mul 4)).add 3) (m.flatMap Ec.f) = some (I64 x_7) ∧ idxOk k d.1 ∧ (Nat.add 0 ((natOf k).mul 4)).add 4 ≤ (m.flatMap Ec.f).length ∧ idxOk (wrapF .i64 (k.sub 1)) d.1 ∧ (Nat.add 0 ((natOf (wrapF .i64 (k.sub 1))).mul 4)).add 4 ≤ (setAt (Nat.add 0 ((natOf k).mul 4)) [I64 x, I64 x_1, I64 x_2, I64 x_3] (m.flatMap Ec.f)).length ∧ True ∧ True ∧ True ∧ ∃ (l : List Cd), setAt (Nat.add 0 ((natOf (wrapF .i64 (k.sub 1))).mul 4)) [I64 x_4, I64 x_5, I64 x_6, I64 x_7] (setAt (Nat.add 0 ((natOf k).mul 4)) [I64 x, I64 x_1, I64 x_2, I64 x_3] (m.flatMap Ec.f)) = l.flatMap Ec.f ∧ true = true ∧ N ((d, i, wrapF .i64 (k.sub 1), ()), l, ())) (True ∧ ∃ l, Sa Ec m l ∧ true = true ∧ R0 ((d, i, k, ()), m, ()) () (l, ()))) := by kernel_rfl
def uN9 : sm4Z → Prop := fun ((d, i, k, ()), m, ()) => ∃ I K : Nat, i = I ∧ k = K ∧ K < m.length ∧ d.1 = m.length ∧ m.length ≤ 1000000
def uXg : sm4Z → Nat := fun ((d, i, k, ()), m, ()) => k.toNat
def uUx : sm4Z → (Unit) → uAb → Prop := fun ((d, i, k, ()), m, ()) _ (m2, _) => m2.length = m.length ∧ Stab.MoveL m k.toNat i.toNat m2
noncomputable def sm4C : LoopC := loopC 1 uUy (uJc uUx) uN9
theorem sm4Step : stepsOk PP uE9 100 66 220 (loopBody PP 66 21) 1 false uUy (uJc uUx) uN9 uXg ⟨_, _, uUw, uUz, fun x y => (x, y)⟩ := by
 intro x y hz
 obtain ⟨d, i, k, _⟩ := x
 obtain ⟨m, _⟩ := y
 refine (sm4Form d i k m _ _).mpr ?_
 obtain ⟨I, K, rfl, rfl, h1, hd, hm⟩ := hz
 obtain ⟨d1, d2⟩ := d
 obtain rfl : d1 = m.length := hd
 rw [ifp_lt]
 split
 ·rename_i h
  have hk1 : K - 1 < m.length := by omega
  have e1 : wrapF .i64 (Int.sub (K : Int) 1) = ((K - 1 : Nat) : Int) := by rw [wsub (by omega) (by omega)]; omega
  have hl := Stab.sw_len m K (K - 1)
  simp only [e1, natOf_nat]
  exact ⟨idx_ok hk1, _, uAm hk1, _, uAh hk1, _, uAl hk1, _, uAk hk1, idx_ok h1, _, uAm h1, _, uAh h1, _, uAl h1, _, uAk h1, idx_ok h1, uDf h1 rfl, idx_ok hk1, by rw [uFl (x := m[K - 1]) h1]; exact uDf hk1 (by simp), trivial, trivial, trivial, Stab.sw m K (K - 1), uSw h1 hk1, (by trivial), ⟨I, K - 1, rfl, rfl, by omega, hl.symm, by omega⟩, by show K - 1 < K; omega, fun _ d2 hr => ⟨hr.1.trans hl, Stab.MoveL.step (by show I < K; omega) hr.2⟩, trivial⟩
 ·rename_i h
  exact ⟨trivial, m, rfl, (by trivial), rfl, Stab.MoveL.zero (by show K ≤ I; omega)⟩
theorem sm4Ok : LoopOk PP 66 220 (.loop (loopBody PP 66 21)) (sm4C) := loop_ok uXg  mixed (KLS_ok (cc_nil)) rfl (steps_cons sm4Step (steps_nil))
abbrev uTa := uBa × Int × Int × Int × Unit × Int × Int × Int × Int × Int × Unit
abbrev sm5Z := uTa × uAb
noncomputable def uUt : Tel uTa := .cons 0 (.slq 0 4) (.ji 1 (.ji 2 (.ji 3 (.cons 4 (.fnp 43 []) (.ji 18 (.ji 19 (.ji 20 (.ji 21 (.ji 22 (.nil))))))))))
noncomputable def uUv : BTel uAb := .cons (.rows Ec 42) (.nil)
noncomputable def uUu : List (LForm sm5Z) := [⟨_, _, uUt, uUv, fun x y => (x, y)⟩]
abbrev uSc := uBa × Int × Int × Int × Unit × Int × Int × Int × Unit
noncomputable def uJb (R0 : sm5Z → uSc → uAb → Prop) : List (Alt sm5Z) := [⟨.exit 8, uSc, uAb, .cons 0 (.slq 0 4) (.ji 1 (.ji 2 (.ji 3 (.cons 4 (.fnp 43 []) (.ji 18 (.ji 19 (.ji 20 (.nil)))))))), .cons (.rows Ec 42) (.nil), R0⟩]
theorem sm5Form (d : Nat × Nat) (a p b mid n s r q : Int) (m : List Cd) (N : sm5Z → Prop) (R0 : sm5Z → uSc → uAb → Prop) : ((runW PP uDb 100).code none 66 220 (loopBody PP 66 33) (mkT (uUt.av id (d, a, p, b, (), mid, n, s, r, q, ()))) [] (stL false (uUv.obs id (m, ()))) (postL 1 uUu (uJb R0) ((d, a, p, b, (), mid, n, s, r, q, ()), m, ()) N)) = ( ifp (!leInt r s) ((0 : Int) ≤ 1 ∧ idxOk (wrapF .i64 (q.sub (wrapF .i64 (shrV .u64 (wrapF .u64 (wrapF .i64 (s.add r))) 1)))) d.1 ∧ ∃ x : Int, nth ((Nat.add 0 ((natOf (wrapF .i64 (q.sub (wrapF .i64 (shrV .u64 (wrapF .u64 (wrapF .i64 (s.add r))) 1))))).mul 4)).add 0) (m.flatMap Ec.f) = some (I64 x) ∧ ∃ x_1 : Int, nth ((Nat.add 0 ((natOf (wrapF .i64 (q.sub (wrapF .i64 (shrV .u64 (wrapF .u64 (wrapF .i64 (s.add r))) 1))))).mul 4)).add 1) (m.flatMap Ec.f) = some (I64 x_1) ∧ ∃ x_2 : Int, nth ((Nat.add 0 ((natOf (wrapF .i64 (q.sub (wrapF .i64 (shrV .u64 (wrapF .u64 (wrapF .i64 (s.add r))) 1))))).mul 4)).add 2) (m.flatMap Ec.f) = some (I64 x_2) ∧ ∃ x_3 : Int, nth ((Nat.add 0 ((natOf (wrapF .i64 (q.sub (wrapF .i64 (shrV .u64 (wrapF .u64 (wrapF .i64 (s.add r))) 1))))).mul 4)).add 3) (m.flatMap Ec.f) = some (I64 x_3) ∧ idxOk (wrapF .i64 (shrV .u64 (wrapF .u64 (wrapF .i64 (s.add r))) 1)) d.1 ∧ ∃ x_4 : Int, nth ((Nat.add 0 ((natOf (wrapF .i64 (shrV .u64 (wrapF .u64 (wrapF .i64 (s.add r))) 1))).mul 4)).add 0) (m.flatMap Ec.f) = some (I64 x_4) ∧ ∃ x_5 : Int, nth ((Nat.add 0 ((natOf (wrapF .i64 (shrV .u64 (wrapF .u64 (wrapF .i64 (s.add r))) 1))).mul 4)).add 1) (m.flatMap Ec.f) = some (I64 x_5) ∧ ∃ x_6 : Int, nth ((Nat.add 0 ((natOf (wrapF .i64 (shrV .u64 (wrapF .u64 (wrapF .i64 (s.add r))) 1))).mul 4)).add 2) (m.flatMap Ec.f) = some (I64 x_6) ∧ ∃ x_7 : Int, nth ((Nat.add 0 ((natOf (wrapF .i64 (shrV .u64 (wrapF .u64 (wrapF .i64 (s.add r))) 1))).mul 4)).add 3) (m.flatMap Ec.f) = some (I64 x_7) ∧ ∃ a_1 : Cd, Ag4 x x_1 x_2 x_3 a_1 ∧ ∃ a_2 : Cd, Ag4 x_4 x_5 x_6 x_7 a_2 ∧ uC6 (a_1, a_2, ()) ∧ ifp (!leInt 0 (uEu a_1 a_2)) (T3 <| ∃ l, Sa Ec m l ∧ true = true ∧ N ((d, a, p, b, (), mid, n, s, wrapF .i64 (shrV .u64 (wrapF .u64 (wrapF .i64 (s.add r))) 1), q, ()), l, ())) (T3 <| ∃ l, Sa Ec m l ∧ true = true ∧ N ((d, a, p, b, (), mid, n, wrapF .i64 ((wrapF .i64 (shrV .u64 (wrapF .u64 (wrapF .i64 (s.add r))) 1)).add 1), r, q, ()), l, ()))) (True ∧ ∃ l, Sa Ec m l ∧ true = true ∧ R0 ((d, a, p, b, (), mid, n, s, r, q, ()), m, ()) (d, a, p, b, (), mid, n, s, ()) (l, ()))) := by kernel_rfl
def uLo : sm5Z → Prop := fun ((d, a, p, b, (), mid, n, s, r, q, ()), m, ()) => ∃ S R Q : Nat, s = S ∧ r = R ∧ q = Q ∧ S ≤ R ∧ R ≤ m.length ∧ Q < m.length + S ∧ R ≤ Q + 1 ∧ d.1 = m.length ∧ m.length ≤ 1000000
def uXf : sm5Z → Nat := fun ((d, a, p, b, (), mid, n, s, r, q, ()), m, ()) => r.toNat - s.toNat
def uR7 : sm5Z → uSc → uAb → Prop := fun ((d, a, p, b, (), mid, n, s, r, q, ()), m, ()) (d2, a2, p2, b2, _, mid2, n2, s2, _) (m2, _) => d2 = d ∧ a2 = a ∧ p2 = p ∧ b2 = b ∧ mid2 = mid ∧ n2 = n ∧ m2 = m ∧ ∃ r2 : Nat, s2 = r2 ∧ Stab.BS (fun c => !Stab.at_ ltC m (q.toNat - c) c) s.toNat r.toNat r2
noncomputable def sm5C : LoopC := loopC 1 uUu (uJb uR7) uLo
theorem sm5Step : stepsOk PP uDb 100 66 220 (loopBody PP 66 33) 1 false uUu (uJb uR7) uLo uXf ⟨_, _, uUt, uUv, fun x y => (x, y)⟩ := by
 intro x y hz
 obtain ⟨d, a, p, b, _, mid, n, s, r, q, _⟩ := x
 obtain ⟨m, _⟩ := y
 refine (sm5Form d a p b mid n s r q m _ _).mpr ?_
 obtain ⟨S, R, Q, rfl, rfl, rfl, hSR, hR, hQ, hRQ, hd, hm⟩ := hz
 obtain ⟨d1, d2⟩ := d
 obtain rfl : d1 = m.length := hd
 rw [ifp_lt]
 split
 ·rename_i h
  have eh := uMr (I := S) (J := R) (by omega)
  obtain ⟨H, hH⟩ : ∃ H, H = (S + R) / 2 := ⟨_, rfl⟩
  rw [← hH] at eh
  have hHl : H < m.length := by omega
  have e1 : wrapF .i64 (Int.add (H : Int) 1) = ((H + 1 : Nat) : Int) := by rw [wadd (by omega) (by omega)]; omega
  have e2 : wrapF .i64 (Int.sub (Q : Int) (H : Int)) = ((Q - H : Nat) : Int) := by rw [wsub (by omega) (by omega)]; omega
  have hQH : Q - H < m.length := by omega
  simp only [eh, e2, natOf_nat]
  refine ⟨by decide, idx_ok hQH, _, uAm hQH, _, uAh hQH, _, uAl hQH, _, uAk hQH, idx_ok hHl, _, uAm hHl, _, uAh hHl, _, uAl hHl, _, uAk hHl, m[Q - H], rfl, m[H], rfl, trivial, ?_⟩
  rw [ifp_lt]
  split
  ·rename_i hlt
   have hlt2 : ltC m[Q - H] m[H] = true := by rw [ltC]; simpa using hlt
   refine ⟨trivial, trivial, trivial, m, rfl, (by trivial), ⟨S, H, Q, rfl, rfl, rfl, by omega, by omega, hQ, by omega, rfl, hm⟩, by show H - S < R - S; omega, fun c d2 hr => ?_, trivial⟩
   obtain ⟨dd, a2, p2, b2, _, mid2, n2, s2, _⟩ := c
   obtain ⟨m2, _⟩ := d2
   obtain ⟨r1, r2, r3, r4, r5, r8, r9, r, r6, r7⟩ := hr
   exact ⟨r1, r2, r3, r4, r5, r8, r9, r, r6, Stab.BS.down (h := H) (by show H ≤ R; omega) (by show (!Stab.at_ ltC m (Q - H) H) = _; rw [Stab.at_eq hQH hHl, hlt2]; rfl) r7⟩
  ·rename_i hlt
   have hlt2 : ltC m[Q - H] m[H] = false := by rw [ltC]; simpa using hlt
   simp only [e1]
   refine ⟨trivial, trivial, trivial, m, rfl, (by trivial), ⟨H + 1, R, Q, rfl, rfl, rfl, by omega, hR, by omega, hRQ, rfl, hm⟩, by show R - (H + 1) < R - S; omega, fun c d2 hr => ?_, trivial⟩
   obtain ⟨dd, a2, p2, b2, _, mid2, n2, s2, _⟩ := c
   obtain ⟨m2, _⟩ := d2
   obtain ⟨r1, r2, r3, r4, r5, r8, r9, r, r6, r7⟩ := hr
   exact ⟨r1, r2, r3, r4, r5, r8, r9, r, r6, Stab.BS.up (h := H) (by show S ≤ H; omega) (by show (!Stab.at_ ltC m (Q - H) H) = _; rw [Stab.at_eq hQH hHl, hlt2]; rfl) r7⟩
 ·rename_i h
  obtain rfl : S = R := by omega
  exact ⟨trivial, m, rfl, (by trivial), rfl, rfl, rfl, rfl, rfl, rfl, rfl, S, rfl, Stab.BS.done _ _⟩
theorem uXe : LoopOk PP 66 220 (.loop (loopBody PP 66 33)) (sm5C) := loop_ok uXf  mixed (KLS_ok (cc_cons uEv (cc_nil))) rfl (steps_cons sm5Step (steps_nil))
abbrev symZ := uE8 × uAb
noncomputable def symT : Tel uE8 := .cons 0 (.slq 0 4) (.ji 1 (.ji 2 (.ji 3 (.cons 4 (.fnp 43 []) (.nil)))))
noncomputable def uUb : BTel uAb := .cons (.rows Ec 42) (.nil)
noncomputable def uNr (R0 : symZ → (Unit) → uAb → Prop) : List (Res symZ) := [⟨Unit, uAb, .nil, .cons (.rows Ec 42) (.nil), R0⟩]
def uAj (D : Nat) : symZ → Prop := fun ((d, a, p, b, (), ()), m, ()) => ∃ A M B2 : Nat, a = A ∧ p = M ∧ b = B2 ∧ A < M ∧ M < B2 ∧ B2 ≤ m.length ∧ B2 - A < D ∧ d.1 = m.length ∧ m.length ≤ 1000000
def uA4 : symZ → (Unit) → uAb → Prop := fun ((d, a, p, b, (), ()), m, ()) _ (m2, _) => m2.length = m.length ∧ Stab.SymR ltC m a.toNat p.toNat b.toNat m2
noncomputable def symK (D : Nat) : CallC := callC 1 symT uUb (uAj D) (uNr uA4)
abbrev zsym (d : Nat × Nat) (a p b : Int) (m : List Cd) : symZ := ((d, a, p, b, (), ()), m, ())
theorem symFn (D : Nat) (d : Nat × Nat) (a p b : Int) (m : List Cd) (R0 : symZ → (Unit) → uAb → Prop) : (callW PP (runW PP (KLS [(43, uIu), (79, rotK), (66, symK D)] [(66, [(3, sm1C), (9, sm2C), (15, sm3C), (21, sm4C), (33, sm5C)])] 42) 200) 66 (symT.cells id (d, a, p, b, (), ())) (stL false (uUb.obs id (m, ()))) (fun v st => resAny 1 (zsym d a p b m) v st (uNr R0))) = ( ifp (eqInt (wrapF .i64 (p.sub a)) 1) (LoopOk PP 66 220 (loopBody PP 66 3).loop sm1C ∧ True ∧ True ∧ ∃ l, Sa Ec m l ∧ true = true ∧ uOc ((d, a, p, b, (), p, b, ()), l, ()) ∧ (∀ c d_1, uU9 ((d, a, p, b, (), p, b, ()), l, ()) c d_1 → LoopOk PP 66 220 (loopBody PP 66 9).loop sm2C ∧ True ∧ True ∧ ∃ l, Sa Ec d_1.1 l ∧ true = true ∧ uOb ((c.1, c.2.2.2.2.2.1, c.2.1, ()), l, ()) ∧ (∀ c_1 d_2, uU5 ((c.1, c.2.2.2.2.2.1, c.2.1, ()), l, ()) c_1 d_2 → ∃ l, Sa Ec d_2.1 l ∧ true = true ∧ R0 (zsym d a p b m) () (l, ())) ∧ True) ∧ True) (ifp (eqInt (wrapF .i64 (b.sub p)) 1) (LoopOk PP 66 220 (loopBody PP 66 15).loop sm3C ∧ True ∧ True ∧ ∃ l, Sa Ec m l ∧ true = true ∧ uOa ((d, a, p, b, (), a, p, ()), l, ()) ∧ (∀ c d_1, uU1 ((d, a, p, b, (), a, p, ()), l, ()) c d_1 → LoopOk PP 66 220 (loopBody PP 66 21).loop sm4C ∧ True ∧ True ∧ ∃ l, Sa Ec d_1.1 l ∧ true = true ∧ uN9 ((c.1, c.2.2.2.2.2.1, c.2.2.1, ()), l, ()) ∧ (∀ c_1 d_2, uUx ((c.1, c.2.2.2.2.2.1, c.2.2.1, ()), l, ()) c_1 d_2 → ∃ l, Sa Ec d_2.1 l ∧ true = true ∧ R0 (zsym d a p b m) () (l, ())) ∧ True) ∧ True) ((0 : Int) ≤ 1 ∧ ifp (!leInt p (wrapF .i64 (shrV .u64 (wrapF .u64 (wrapF .i64 (a.add b))) 1))) (LoopOk PP 66 220 (loopBody PP 66 33).loop sm5C ∧ True ∧ True ∧ ∃ l, Sa Ec m l ∧ true = true ∧ uLo ((d, a, p, b, (), wrapF .i64 (shrV .u64 (wrapF .u64 (wrapF .i64 (a.add b))) 1), wrapF .i64 ((wrapF .i64 (shrV .u64 (wrapF .u64 (wrapF .i64 (a.add b))) 1)).add p), wrapF .i64 ((wrapF .i64 ((wrapF .i64 (shrV .u64 (wrapF .u64 (wrapF .i64 (a.add b))) 1)).add p)).sub b), wrapF .i64 (shrV .u64 (wrapF .u64 (wrapF .i64 (a.add b))) 1), wrapF .i64 ((wrapF .i64 ((wrapF .i64 (shrV .u64 (wrapF .u64 (wrapF .i64 (a.add b))) 1)).add p)).sub 1), ()), l, ()) ∧ (∀ c d_1, uR7 ((d, a, p, b, (), wrapF .i64 (shrV .u64 (wrapF .u64 (wrapF .i64 (a.add b))) 1), wrapF .i64 ((wrapF .i64 (shrV .u64 (wrapF .u64 (wrapF .i64 (a.add b))) 1)).add p), wrapF .i64 ((wrapF .i64 ((wrapF .i64 (shrV .u64 (wrapF .u64 (wrapF .i64 (a.add b))) 1)).add p)).sub b), wrapF .i64 (shrV .u64 (wrapF .u64 (wrapF .i64 (a.add b))) 1), wrapF .i64 ((wrapF .i64 ((wrapF .i64 (shrV .u64 (wrapF .u64 (wrapF .i64 (a.add b))) 1)).add p)).sub 1), ()), l, ()) c d_1 → ifp (!leInt c.2.2.1 c.2.2.2.2.2.2.2.1) (ifp (!leInt (wrapF .i64 (c.2.2.2.2.2.2.1.sub c.2.2.2.2.2.2.2.1)) c.2.2.1) (∃ l, Sa Ec d_1.1 l ∧ true = true ∧ uLt ((c.1, c.2.2.2.2.2.2.2.1, c.2.2.1, wrapF .i64 (c.2.2.2.2.2.2.1.sub c.2.2.2.2.2.2.2.1), (), ()), l, ()) ∧ (∀ c_1 d_2, uR8 ((c.1, c.2.2.2.2.2.2.2.1, c.2.2.1, wrapF .i64 (c.2.2.2.2.2.2.1.sub c.2.2.2.2.2.2.2.1), (), ()), l, ()) c_1 d_2 → ifp (!leInt c.2.2.2.2.2.2.2.1 c.2.1) (ifp (!leInt c.2.2.2.2.2.1 c.2.2.2.2.2.2.2.1) (∃ l, Sa Ec d_2.1 l ∧ true = true ∧ uAj D ((c.1, c.2.1, c.2.2.2.2.2.2.2.1, c.2.2.2.2.2.1, (), ()), l, ()) ∧ (∀ c_2 d_3, uA4 ((c.1, c.2.1, c.2.2.2.2.2.2.2.1, c.2.2.2.2.2.1, (), ()), l, ()) c_2 d_3 → ifp (!leInt (wrapF .i64 (c.2.2.2.2.2.2.1.sub c.2.2.2.2.2.2.2.1)) c.2.2.2.2.2.1) (ifp (!leInt c.2.2.2.1 (wrapF .i64 (c.2.2.2.2.2.2.1.sub c.2.2.2.2.2.2.2.1))) (∃ l, Sa Ec d_3.1 l ∧ true = true ∧ uAj D ((c.1, c.2.2.2.2.2.1, wrapF .i64 (c.2.2.2.2.2.2.1.sub c.2.2.2.2.2.2.2.1), c.2.2.2.1, (), ()), l, ()) ∧ (∀ c_3 d_4, uA4 ((c.1, c.2.2.2.2.2.1, wrapF .i64 (c.2.2.2.2.2.2.1.sub c.2.2.2.2.2.2.2.1), c.2.2.2.1, (), ()), l, ()) c_3 d_4 → ∃ l, Sa Ec d_4.1 l ∧ true = true ∧ R0 (zsym d a p b m) () (l, ())) ∧ True) (∃ l, Sa Ec d_3.1 l ∧ true = true ∧ R0 (zsym d a p b m) () (l, ()))) (∃ l, Sa Ec d_3.1 l ∧ true = true ∧ R0 (zsym d a p b m) () (l, ()))) ∧ True) (ifp (!leInt (wrapF .i64 (c.2.2.2.2.2.2.1.sub c.2.2.2.2.2.2.2.1)) c.2.2.2.2.2.1) (ifp (!leInt c.2.2.2.1 (wrapF .i64 (c.2.2.2.2.2.2.1.sub c.2.2.2.2.2.2.2.1))) (∃ l, Sa Ec d_2.1 l ∧ true = true ∧ uAj D ((c.1, c.2.2.2.2.2.1, wrapF .i64 (c.2.2.2.2.2.2.1.sub c.2.2.2.2.2.2.2.1), c.2.2.2.1, (), ()), l, ()) ∧ (∀ c_2 d_3, uA4 ((c.1, c.2.2.2.2.2.1, wrapF .i64 (c.2.2.2.2.2.2.1.sub c.2.2.2.2.2.2.2.1), c.2.2.2.1, (), ()), l, ()) c_2 d_3 → ∃ l, Sa Ec d_3.1 l ∧ true = true ∧ R0 (zsym d a p b m) () (l, ())) ∧ True) (∃ l, Sa Ec d_2.1 l ∧ true = true ∧ R0 (zsym d a p b m) () (l, ()))) (∃ l, Sa Ec d_2.1 l ∧ true = true ∧ R0 (zsym d a p b m) () (l, ())))) (ifp (!leInt (wrapF .i64 (c.2.2.2.2.2.2.1.sub c.2.2.2.2.2.2.2.1)) c.2.2.2.2.2.1) (ifp (!leInt c.2.2.2.1 (wrapF .i64 (c.2.2.2.2.2.2.1.sub c.2.2.2.2.2.2.2.1))) (∃ l, Sa Ec d_2.1 l ∧ true = true ∧ uAj D ((c.1, c.2.2.2.2.2.1, wrapF .i64 (c.2.2.2.2.2.2.1.sub c.2.2.2.2.2.2.2.1), c.2.2.2.1, (), ()), l, ()) ∧ (∀ c_2 d_3, uA4 ((c.1, c.2.2.2.2.2.1, wrapF .i64 (c.2.2.2.2.2.2.1.sub c.2.2.2.2.2.2.2.1), c.2.2.2.1, (), ()), l, ()) c_2 d_3 → ∃ l, Sa Ec d_3.1 l ∧ true = true ∧ R0 (zsym d a p b m) () (l, ())) ∧ True) (∃ l, Sa Ec d_2.1 l ∧ true = true ∧ R0 (zsym d a p b m) () (l, ()))) (∃ l, Sa Ec d_2.1 l ∧ true = true ∧ R0 (zsym d a p b m) () (l, ())))) ∧ True) (ifp (!leInt c.2.2.2.2.2.2.2.1 c.2.1) (ifp (!leInt c.2.2.2.2.2.1 c.2.2.2.2.2.2.2.1) (∃ l, Sa Ec d_1.1 l ∧ true = true ∧ uAj D ((c.1, c.2.1, c.2.2.2.2.2.2.2.1, c.2.2.2.2.2.1, (), ()), l, ()) ∧ (∀ c_1 d_2, uA4 ((c.1, c.2.1, c.2.2.2.2.2.2.2.1, c.2.2.2.2.2.1, (), ()), l, ()) c_1 d_2 → ifp (!leInt (wrapF .i64 (c.2.2.2.2.2.2.1.sub c.2.2.2.2.2.2.2.1)) c.2.2.2.2.2.1) (ifp (!leInt c.2.2.2.1 (wrapF .i64 (c.2.2.2.2.2.2.1.sub c.2.2.2.2.2.2.2.1))) (∃ l, Sa Ec d_2.1 l ∧ true = true ∧ uAj D ((c.1, c.2.2.2.2.2.1, wrapF .i64 (c.2.2.2.2.2.2.1.sub c.2.2.2.2.2.2.2.1), c.2.2.2.1, (), ()), l, ()) ∧ (∀ c_2 d_3, uA4 ((c.1, c.2.2.2.2.2.1, wrapF .i64 (c.2.2.2.2.2.2.1.sub c.2.2.2.2.2.2.2.1), c.2.2.2.1, (), ()), l, ()) c_2 d_3 → ∃ l, Sa Ec d_3.1 l ∧ true = true ∧ R0 (zsym d a p b m) () (l, ())) ∧ True) (∃ l, Sa Ec d_2.1 l ∧ true = true ∧ R0 (zsym d a p b m) () (l, ()))) (∃ l, Sa Ec d_2.1 l ∧ true = true ∧ R0 (zsym d a p b m) () (l, ()))) ∧ True) (ifp (!leInt (wrapF .i64 (c.2.2.2.2.2.2.1.sub c.2.2.2.2.2.2.2.1)) c.2.2.2.2.2.1) (ifp (!leInt c.2.2.2.1 (wrapF .i64 (c.2.2.2.2.2.2.1.sub c.2.2.2.2.2.2.2.1))) (∃ l, Sa Ec d_1.1 l ∧ true = true ∧ uAj D ((c.1, c.2.2.2.2.2.1, wrapF .i64 (c.2.2.2.2.2.2.1.sub c.2.2.2.2.2.2.2.1), c.2.2.2.1, (), ()), l, ()) ∧ (∀ c_1 d_2, uA4 ((c.1, c.2.2.2.2.2.1, wrapF .i64 (c.2.2.2.2.2.2.1.sub c.2.2.2.2.2.2.2.1), c.2.2.2.1, (), ()), l, ()) c_1 d_2 → ∃ l, Sa Ec d_2.1 l ∧ true = true ∧ R0 (zsym d a p b m) () (l, ())) ∧ True) (∃ l, Sa Ec d_1.1 l ∧ true = true ∧ R0 (zsym d a p b m) () (l, ()))) (∃ l, Sa Ec d_1.1 l ∧ true = true ∧ R0 (zsym d a p b m) () (l, ())))) (ifp (!leInt (wrapF .i64 (c.2.2.2.2.2.2.1.sub c.2.2.2.2.2.2.2.1)) c.2.2.2.2.2.1) (ifp (!leInt c.2.2.2.1 (wrapF .i64 (c.2.2.2.2.2.2.1.sub c.2.2.2.2.2.2.2.1))) (∃ l, Sa Ec d_1.1 l ∧ true = true ∧ uAj D ((c.1, c.2.2.2.2.2.1, wrapF .i64 (c.2.2.2.2.2.2.1.sub c.2.2.2.2.2.2.2.1), c.2.2.2.1, (), ()), l, ()) ∧ (∀ c_1 d_2, uA4 ((c.1, c.2.2.2.2.2.1, wrapF .i64 (c.2.2.2.2.2.2.1.sub c.2.2.2.2.2.2.2.1), c.2.2.2.1, (), ()), l, ()) c_1 d_2 → ∃ l, Sa Ec d_2.1 l ∧ true = true ∧ R0 (zsym d a p b m) () (l, ())) ∧ True) (∃ l, Sa Ec d_1.1 l ∧ true = true ∧ R0 (zsym d a p b m) () (l, ()))) (∃ l, Sa Ec d_1.1 l ∧ true = true ∧ R0 (zsym d a p b m) () (l, ()))))) (ifp (!leInt c.2.2.2.2.2.2.2.1 c.2.1) (ifp (!leInt c.2.2.2.2.2.1 c.2.2.2.2.2.2.2.1) (∃ l, Sa Ec d_1.1 l ∧ true = true ∧ uAj D ((c.1, c.2.1, c.2.2.2.2.2.2.2.1, c.2.2.2.2.2.1, (), ()), l, ()) ∧ (∀ c_1 d_2, uA4 ((c.1, c.2.1, c.2.2.2.2.2.2.2.1, c.2.2.2.2.2.1, (), ()), l, ()) c_1 d_2 → ifp (!leInt (wrapF .i64 (c.2.2.2.2.2.2.1.sub c.2.2.2.2.2.2.2.1)) c.2.2.2.2.2.1) (ifp (!leInt c.2.2.2.1 (wrapF .i64 (c.2.2.2.2.2.2.1.sub c.2.2.2.2.2.2.2.1))) (∃ l, Sa Ec d_2.1 l ∧ true = true ∧ uAj D ((c.1, c.2.2.2.2.2.1, wrapF .i64 (c.2.2.2.2.2.2.1.sub c.2.2.2.2.2.2.2.1), c.2.2.2.1, (), ()), l, ()) ∧ (∀ c_2 d_3, uA4 ((c.1, c.2.2.2.2.2.1, wrapF .i64 (c.2.2.2.2.2.2.1.sub c.2.2.2.2.2.2.2.1), c.2.2.2.1, (), ()), l, ()) c_2 d_3 → ∃ l, Sa Ec d_3.1 l ∧ true = true ∧ R0 (zsym d a p b m) () (l, ())) ∧ True) (∃ l, Sa Ec d_2.1 l ∧ true = true ∧ R0 (zsym d a p b m) () (l, ()))) (∃ l, Sa Ec d_2.1 l ∧ true = true ∧ R0 (zsym d a p b m) () (l, ()))) ∧ True) (ifp (!leInt (wrapF .i64 (c.2.2.2.2.2.2.1.sub c.2.2.2.2.2.2.2.1)) c.2.2.2.2.2.1) (ifp (!leInt c.2.2.2.1 (wrapF .i64 (c.2.2.2.2.2.2.1.sub c.2.2.2.2.2.2.2.1))) (∃ l, Sa Ec d_1.1 l ∧ true = true ∧ uAj D ((c.1, c.2.2.2.2.2.1, wrapF .i64 (c.2.2.2.2.2.2.1.sub c.2.2.2.2.2.2.2.1), c.2.2.2.1, (), ()), l, ()) ∧ (∀ c_1 d_2, uA4 ((c.1, c.2.2.2.2.2.1, wrapF .i64 (c.2.2.2.2.2.2.1.sub c.2.2.2.2.2.2.2.1), c.2.2.2.1, (), ()), l, ()) c_1 d_2 → ∃ l, Sa Ec d_2.1 l ∧ true = true ∧ R0 (zsym d a p b m) () (l, ())) ∧ True) (∃ l, Sa Ec d_1.1 l ∧ true = true ∧ R0 (zsym d a p b m) () (l, ()))) (∃ l, Sa Ec d_1.1 l ∧ true = true ∧ R0 (zsym d a p b m) () (l, ())))) (ifp (!leInt (wrapF .i64 (c.2.2.2.2.2.2.1.sub c.2.2.2.2.2.2.2.1)) c.2.2.2.2.2.1) (ifp (!leInt c.2.2.2.1 (wrapF .i64 (c.2.2.2.2.2.2.1.sub c.2.2.2.2.2.2.2.1))) (∃ l, Sa Ec d_1.1 l ∧ true = true ∧ uAj D ((c.1, c.2.2.2.2.2.1, wrapF .i64 (c.2.2.2.2.2.2.1.sub c.2.2.2.2.2.2.2.1), c.2.2.2.1, (), ()), l, ()) ∧ (∀ c_1 d_2, uA4 ((c.1, c.2.2.2.2.2.1, wrapF .i64 (c.2.2.2.2.2.2.1.sub c.2.2.2.2.2.2.2.1), c.2.2.2.1, (), ()), l, ()) c_1 d_2 → ∃ l, Sa Ec d_2.1 l ∧ true = true ∧ R0 (zsym d a p b m) () (l, ())) ∧ True) (∃ l, Sa Ec d_1.1 l ∧ true = true ∧ R0 (zsym d a p b m) () (l, ()))) (∃ l, Sa Ec d_1.1 l ∧ true = true ∧ R0 (zsym d a p b m) () (l, ()))))) ∧ True) (LoopOk PP 66 220 (loopBody PP 66 33).loop sm5C ∧ True ∧ True ∧ ∃ l, Sa Ec m l ∧ true = true ∧ uLo ((d, a, p, b, (), wrapF .i64 (shrV .u64 (wrapF .u64 (wrapF .i64 (a.add b))) 1), wrapF .i64 ((wrapF .i64 (shrV .u64 (wrapF .u64 (wrapF .i64 (a.add b))) 1)).add p), a, p, wrapF .i64 ((wrapF .i64 ((wrapF .i64 (shrV .u64 (wrapF .u64 (wrapF .i64 (a.add b))) 1)).add p)).sub 1), ()), l, ()) ∧ (∀ c d_1, uR7 ((d, a, p, b, (), wrapF .i64 (shrV .u64 (wrapF .u64 (wrapF .i64 (a.add b))) 1), wrapF .i64 ((wrapF .i64 (shrV .u64 (wrapF .u64 (wrapF .i64 (a.add b))) 1)).add p), a, p, wrapF .i64 ((wrapF .i64 ((wrapF .i64 (shrV .u64 (wrapF .u64 (wrapF .i64 (a.add b))) 1)).add p)).sub 1), ()), l, ()) c d_1 → ifp (!leInt c.2.2.1 c.2.2.2.2.2.2.2.1) (ifp (!leInt (wrapF .i64 (c.2.2.2.2.2.2.1.sub c.2.2.2.2.2.2.2.1)) c.2.2.1) (∃ l, Sa Ec d_1.1 l ∧ true = true ∧ uLt ((c.1, c.2.2.2.2.2.2.2.1, c.2.2.1, wrapF .i64 (c.2.2.2.2.2.2.1.sub c.2.2.2.2.2.2.2.1), (), ()), l, ()) ∧ (∀ c_1 d_2, uR8 ((c.1, c.2.2.2.2.2.2.2.1, c.2.2.1, wrapF .i64 (c.2.2.2.2.2.2.1.sub c.2.2.2.2.2.2.2.1), (), ()), l, ()) c_1 d_2 → ifp (!leInt c.2.2.2.2.2.2.2.1 c.2.1) (ifp (!leInt c.2.2.2.2.2.1 c.2.2.2.2.2.2.2.1) (∃ l, Sa Ec d_2.1 l ∧ true = true ∧ uAj D ((c.1, c.2.1, c.2.2.2.2.2.2.2.1, c.2.2.2.2.2.1, (), ()), l, ()) ∧ (∀ c_2 d_3, uA4 ((c.1, c.2.1, c.2.2.2.2.2.2.2.1, c.2.2.2.2.2.1, (), ()), l, ()) c_2 d_3 → ifp (!leInt (wrapF .i64 (c.2.2.2.2.2.2.1.sub c.2.2.2.2.2.2.2.1)) c.2.2.2.2.2.1) (ifp (!leInt c.2.2.2.1 (wrapF .i64 (c.2.2.2.2.2.2.1.sub c.2.2.2.2.2.2.2.1))) (∃ l, Sa Ec d_3.1 l ∧ true = true ∧ uAj D ((c.1, c.2.2.2.2.2.1, wrapF .i64 (c.2.2.2.2.2.2.1.sub c.2.2.2.2.2.2.2.1), c.2.2.2.1, (), ()), l, ()) ∧ (∀ c_3 d_4, uA4 ((c.1, c.2.2.2.2.2.1, wrapF .i64 (c.2.2.2.2.2.2.1.sub c.2.2.2.2.2.2.2.1), c.2.2.2.1, (), ()), l, ()) c_3 d_4 → ∃ l, Sa Ec d_4.1 l ∧ true = true ∧ R0 (zsym d a p b m) () (l, ())) ∧ True) (∃ l, Sa Ec d_3.1 l ∧ true = true ∧ R0 (zsym d a p b m) () (l, ()))) (∃ l, Sa Ec d_3.1 l ∧ true = true ∧ R0 (zsym d a p b m) () (l, ()))) ∧ True) (ifp (!leInt (wrapF .i64 (c.2.2.2.2.2.2.1.sub c.2.2.2.2.2.2.2.1)) c.2.2.2.2.2.1) (ifp (!leInt c.2.2.2.1 (wrapF .i64 (c.2.2.2.2.2.2.1.sub c.2.2.2.2.2.2.2.1))) (∃ l, Sa Ec d_2.1 l ∧ true = true ∧ uAj D ((c.1, c.2.2.2.2.2.1, wrapF .i64 (c.2.2.2.2.2.2.1.sub c.2.2.2.2.2.2.2.1), c.2.2.2.1, (), ()), l, ()) ∧ (∀ c_2 d_3, uA4 ((c.1, c.2.2.2.2.2.1, wrapF .i64 (c.2.2.2.2.2.2.1.sub c.2.2.2.2.2.2.2.1), c.2.2.2.1, (), ()), l, ()) c_2 d_3 → ∃ l, Sa Ec d_3.1 l ∧ true = true ∧ R0 (zsym d a p b m) () (l, ())) ∧ True) (∃ l, Sa Ec d_2.1 l ∧ true = true ∧ R0 (zsym d a p b m) () (l, ()))) (∃ l, Sa Ec d_2.1 l ∧ true = true ∧ R0 (zsym d a p b m) () (l, ())))) (ifp (!leInt (wrapF .i64 (c.2.2.2.2.2.2.1.sub c.2.2.2.2.2.2.2.1)) c.2.2.2.2.2.1) (ifp (!leInt c.2.2.2.1 (wrapF .i64 (c.2.2.2.2.2.2.1.sub c.2.2.2.2.2.2.2.1))) (∃ l, Sa Ec d_2.1 l ∧ true = true ∧ uAj D ((c.1, c.2.2.2.2.2.1, wrapF .i64 (c.2.2.2.2.2.2.1.sub c.2.2.2.2.2.2.2.1), c.2.2.2.1, (), ()), l, ()) ∧ (∀ c_2 d_3, uA4 ((c.1, c.2.2.2.2.2.1, wrapF .i64 (c.2.2.2.2.2.2.1.sub c.2.2.2.2.2.2.2.1), c.2.2.2.1, (), ()), l, ()) c_2 d_3 → ∃ l, Sa Ec d_3.1 l ∧ true = true ∧ R0 (zsym d a p b m) () (l, ())) ∧ True) (∃ l, Sa Ec d_2.1 l ∧ true = true ∧ R0 (zsym d a p b m) () (l, ()))) (∃ l, Sa Ec d_2.1 l ∧ true = true ∧ R0 (zsym d a p b m) () (l, ())))) ∧ True) (ifp (!leInt c.2.2.2.2.2.2.2.1 c.2.1) (ifp (!leInt c.2.2.2.2.2.1 c.2.2.2.2.2.2.2.1) (∃ l, Sa Ec d_1.1 l ∧ true = true ∧ uAj D ((c.1, c.2.1, c.2.2.2.2.2.2.2.1, c.2.2.2.2.2.1, (), ()), l, ()) ∧ (∀ c_1 d_2, uA4 ((c.1, c.2.1, c.2.2.2.2.2.2.2.1, c.2.2.2.2.2.1, (), ()), l, ()) c_1 d_2 → ifp (!leInt (wrapF .i64 (c.2.2.2.2.2.2.1.sub c.2.2.2.2.2.2.2.1)) c.2.2.2.2.2.1) (ifp (!leInt c.2.2.2.1 (wrapF .i64 (c.2.2.2.2.2.2.1.sub c.2.2.2.2.2.2.2.1))) (∃ l, Sa Ec d_2.1 l ∧ true = true ∧ uAj D ((c.1, c.2.2.2.2.2.1, wrapF .i64 (c.2.2.2.2.2.2.1.sub c.2.2.2.2.2.2.2.1), c.2.2.2.1, (), ()), l, ()) ∧ (∀ c_2 d_3, uA4 ((c.1, c.2.2.2.2.2.1, wrapF .i64 (c.2.2.2.2.2.2.1.sub c.2.2.2.2.2.2.2.1), c.2.2.2.1, (), ()), l, ()) c_2 d_3 → ∃ l, Sa Ec d_3.1 l ∧ true = true ∧ R0 (zsym d a p b m) () (l, ())) ∧ True) (∃ l, Sa Ec d_2.1 l ∧ true = true ∧ R0 (zsym d a p b m) () (l, ()))) (∃ l, Sa Ec d_2.1 l ∧ true = true ∧ R0 (zsym d a p b m) () (l, ()))) ∧ True) (ifp (!leInt (wrapF .i64 (c.2.2.2.2.2.2.1.sub c.2.2.2.2.2.2.2.1)) c.2.2.2.2.2.1) (ifp (!leInt c.2.2.2.1 (wrapF .i64 (c.2.2.2.2.2.2.1.sub c.2.2.2.2.2.2.2.1))) (∃ l, Sa Ec d_1.1 l ∧ true = true ∧ uAj D ((c.1, c.2.2.2.2.2.1, wrapF .i64 (c.2.2.2.2.2.2.1.sub c.2.2.2.2.2.2.2.1), c.2.2.2.1, (), ()), l, ()) ∧ (∀ c_1 d_2, uA4 ((c.1, c.2.2.2.2.2.1, wrapF .i64 (c.2.2.2.2.2.2.1.sub c.2.2.2.2.2.2.2.1), c.2.2.2.1, (), ()), l, ()) c_1 d_2 → ∃ l, Sa Ec d_2.1 l ∧ true = true ∧ R0 (zsym d a p b m) () (l, ())) ∧ True) (∃ l, Sa Ec d_1.1 l ∧ true = true ∧ R0 (zsym d a p b m) () (l, ()))) (∃ l, Sa Ec d_1.1 l ∧ true = true ∧ R0 (zsym d a p b m) () (l, ())))) (ifp (!leInt (wrapF .i64 (c.2.2.2.2.2.2.1.sub c.2.2.2.2.2.2.2.1)) c.2.2.2.2.2.1) (ifp (!leInt c.2.2.2.1 (wrapF .i64 (c.2.2.2.2.2.2.1.sub c.2.2.2.2.2.2.2.1))) (∃ l, Sa Ec d_1.1 l ∧ true = true ∧ uAj D ((c.1, c.2.2.2.2.2.1, wrapF .i64 (c.2.2.2.2.2.2.1.sub c.2.2.2.2.2.2.2.1), c.2.2.2.1, (), ()), l, ()) ∧ (∀ c_1 d_2, uA4 ((c.1, c.2.2.2.2.2.1, wrapF .i64 (c.2.2.2.2.2.2.1.sub c.2.2.2.2.2.2.2.1), c.2.2.2.1, (), ()), l, ()) c_1 d_2 → ∃ l, Sa Ec d_2.1 l ∧ true = true ∧ R0 (zsym d a p b m) () (l, ())) ∧ True) (∃ l, Sa Ec d_1.1 l ∧ true = true ∧ R0 (zsym d a p b m) () (l, ()))) (∃ l, Sa Ec d_1.1 l ∧ true = true ∧ R0 (zsym d a p b m) () (l, ()))))) (ifp (!leInt c.2.2.2.2.2.2.2.1 c.2.1) (ifp (!leInt c.2.2.2.2.2.1 c.2.2.2.2.2.2.2.1) (∃ l, Sa Ec d_1.1 l ∧ true = true ∧ uAj D ((c.1, c.2.1, c.2.2.2.2.2.2.2.1, c.2.2.2.2.2.1, (), ()), l, ()) ∧ (∀ c_1 d_2, uA4 ((c.1, c.2.1, c.2.2.2.2.2.2.2.1, c.2.2.2.2.2.1, (), ()), l, ()) c_1 d_2 → ifp (!leInt (wrapF .i64 (c.2.2.2.2.2.2.1.sub c.2.2.2.2.2.2.2.1)) c.2.2.2.2.2.1) (ifp (!leInt c.2.2.2.1 (wrapF .i64 (c.2.2.2.2.2.2.1.sub c.2.2.2.2.2.2.2.1))) (∃ l, Sa Ec d_2.1 l ∧ true = true ∧ uAj D ((c.1, c.2.2.2.2.2.1, wrapF .i64 (c.2.2.2.2.2.2.1.sub c.2.2.2.2.2.2.2.1), c.2.2.2.1, (), ()), l, ()) ∧ (∀ c_2 d_3, uA4 ((c.1, c.2.2.2.2.2.1, wrapF .i64 (c.2.2.2.2.2.2.1.sub c.2.2.2.2.2.2.2.1), c.2.2.2.1, (), ()), l, ()) c_2 d_3 → ∃ l, Sa Ec d_3.1 l ∧ true = true ∧ R0 (zsym d a p b m) () (l, ())) ∧ True) (∃ l, Sa Ec d_2.1 l ∧ true = true ∧ R0 (zsym d a p b m) () (l, ()))) (∃ l, Sa Ec d_2.1 l ∧ true = true ∧ R0 (zsym d a p b m) () (l, ()))) ∧ True) (ifp (!leInt (wrapF .i64 (c.2.2.2.2.2.2.1.sub c.2.2.2.2.2.2.2.1)) c.2.2.2.2.2.1) (ifp (!leInt c.2.2.2.1 (wrapF .i64 (c.2.2.2.2.2.2.1.sub c.2.2.2.2.2.2.2.1))) (∃ l, Sa Ec d_1.1 l ∧ true = true ∧ uAj D ((c.1, c.2.2.2.2.2.1, wrapF .i64 (c.2.2.2.2.2.2.1.sub c.2.2.2.2.2.2.2.1), c.2.2.2.1, (), ()), l, ()) ∧ (∀ c_1 d_2, uA4 ((c.1, c.2.2.2.2.2.1, wrapF .i64 (c.2.2.2.2.2.2.1.sub c.2.2.2.2.2.2.2.1), c.2.2.2.1, (), ()), l, ()) c_1 d_2 → ∃ l, Sa Ec d_2.1 l ∧ true = true ∧ R0 (zsym d a p b m) () (l, ())) ∧ True) (∃ l, Sa Ec d_1.1 l ∧ true = true ∧ R0 (zsym d a p b m) () (l, ()))) (∃ l, Sa Ec d_1.1 l ∧ true = true ∧ R0 (zsym d a p b m) () (l, ())))) (ifp (!leInt (wrapF .i64 (c.2.2.2.2.2.2.1.sub c.2.2.2.2.2.2.2.1)) c.2.2.2.2.2.1) (ifp (!leInt c.2.2.2.1 (wrapF .i64 (c.2.2.2.2.2.2.1.sub c.2.2.2.2.2.2.2.1))) (∃ l, Sa Ec d_1.1 l ∧ true = true ∧ uAj D ((c.1, c.2.2.2.2.2.1, wrapF .i64 (c.2.2.2.2.2.2.1.sub c.2.2.2.2.2.2.2.1), c.2.2.2.1, (), ()), l, ()) ∧ (∀ c_1 d_2, uA4 ((c.1, c.2.2.2.2.2.1, wrapF .i64 (c.2.2.2.2.2.2.1.sub c.2.2.2.2.2.2.2.1), c.2.2.2.1, (), ()), l, ()) c_1 d_2 → ∃ l, Sa Ec d_2.1 l ∧ true = true ∧ R0 (zsym d a p b m) () (l, ())) ∧ True) (∃ l, Sa Ec d_1.1 l ∧ true = true ∧ R0 (zsym d a p b m) () (l, ()))) (∃ l, Sa Ec d_1.1 l ∧ true = true ∧ R0 (zsym d a p b m) () (l, ()))))) ∧ True)))) := by kernel_rfl
theorem symStep (D : Nat) (z : symZ) (hp : uAj (D + 1) z) : callW PP (runW PP (KLS [(43, uIu), (79, rotK), (66, symK D)] [(66, [(3, sm1C), (9, sm2C), (15, sm3C), (21, sm4C), (33, sm5C)])] 42) 200) 66 (symT.cells id z.1) (stL false (uUb.obs id z.2)) (fun v st => resAny 1 z v st (uNr uA4)) := by
 obtain ⟨⟨d, a, p, b, _, _⟩, ⟨m, _⟩⟩ := z
 refine (symFn D d a p b m _).mpr ?_
 obtain ⟨A, M, B, rfl, rfl, rfl, hAM, hMB, hB, hD, hd, hm⟩ := hp
 obtain ⟨d1, d2⟩ := d
 obtain rfl : d1 = m.length := hd
 have e1 : wrapF .i64 (Int.sub (M : Int) (A : Int)) = ((M - A : Nat) : Int) := by rw [wsub (by omega) (by omega)]; omega
 have e2 : wrapF .i64 (Int.sub (B : Int) (M : Int)) = ((B - M : Nat) : Int) := by rw [wsub (by omega) (by omega)]; omega
 rw [e1, ifp_eq]
 split
 ·rename_i h
  obtain rfl : M = A + 1 := by omega
  refine ⟨sm1Ok, trivial, trivial, m, rfl, (by trivial), ⟨A, A + 1, B, rfl, rfl, rfl, by omega, by omega, hB, rfl, hm⟩, fun c d3 hr => ?_, trivial⟩
  obtain ⟨dd, a2, p2, b2, _, i2, _⟩ := c
  obtain ⟨m2, _⟩ := d3
  obtain ⟨r1, r2, r3, r4, r5, r, r6, r7⟩ := hr
  obtain rfl : dd = (m.length, d2) := r1
  obtain rfl : a2 = (A : Int) := r2
  obtain rfl : m = m2 := r5.symm
  obtain rfl : i2 = (r : Int) := r6
  have hb1 : A + 1 ≤ r := r7.1
  have hb2 : r ≤ B := r7.2.1
  refine ⟨sm2Ok, trivial, trivial, m, rfl, (by trivial), ⟨r, A, rfl, rfl, by omega, by omega, rfl, hm⟩, fun _ d4 hr4 => ?_, trivial⟩
  obtain ⟨m4, _⟩ := d4
  obtain ⟨l4, s4⟩ := hr4
  exact ⟨m4, rfl, (by trivial), l4, Stab.SymR.one uEy r7 s4⟩
 ·rename_i hne
  rw [e2, ifp_eq]
  split
  ·rename_i h
   obtain rfl : B = M + 1 := by omega
   refine ⟨sm3Ok, trivial, trivial, m, rfl, (by trivial), ⟨M, A, M, rfl, rfl, rfl, by omega, by omega, by omega, rfl, hm⟩, fun c d3 hr => ?_, trivial⟩
   obtain ⟨dd, a2, p2, b2, _, i2, _⟩ := c
   obtain ⟨m2, _⟩ := d3
   obtain ⟨r1, r2, r3, r4, r5, r, r6, r7⟩ := hr
   obtain rfl : dd = (m.length, d2) := r1
   obtain rfl : p2 = (M : Int) := r3
   obtain rfl : m = m2 := r5.symm
   obtain rfl : i2 = (r : Int) := r6
   refine ⟨sm4Ok, trivial, trivial, m, rfl, (by trivial), ⟨r, M, rfl, rfl, by omega, rfl, hm⟩, fun _ d4 hr4 => ?_, trivial⟩
   obtain ⟨m4, _⟩ := d4
   obtain ⟨l4, s4⟩ := hr4
   exact ⟨m4, rfl, (by trivial), l4, Stab.SymR.last uEy r7 s4⟩
  ·rename_i hne2
   refine ⟨by decide, ?_⟩
   have eh := uMr (I := A) (J := B) (by omega)
   obtain ⟨Mi, hH⟩ : ∃ Mi, Mi = (A + B) / 2 := ⟨_, rfl⟩
   rw [← hH] at eh
   have en : wrapF .i64 (Int.add (Mi : Int) (M : Int)) = ((Mi + M : Nat) : Int) := by rw [wadd (by omega) (by omega)]; omega
   have eq : wrapF .i64 (Int.sub ((Mi + M : Nat) : Int) 1) = ((Mi + M - 1 : Nat) : Int) := by rw [wsub (by omega) (by omega)]; omega
   simp only [eh, en, eq]
   rw [ifp_lt]
   split
   ·rename_i hlt
    have eb : wrapF .i64 (Int.sub ((Mi + M : Nat) : Int) (B : Int)) = ((Mi + M - B : Nat) : Int) := by rw [wsub (by omega) (by omega)]; omega
    simp only [eb]
    refine ⟨uXe, trivial, trivial, m, rfl, (by trivial), ⟨Mi + M - B, Mi, Mi + M - 1, rfl, rfl, rfl, by omega, by omega, by omega, by omega, rfl, hm⟩, fun c d3 hr => ?_, trivial⟩
    obtain ⟨dd, a2, p2, b2, _, mid2, n2, s2, _⟩ := c
    obtain ⟨m2, _⟩ := d3
    obtain ⟨r1, r2, r3, r4, r5, r8, r9, S, r6, r7⟩ := hr
    obtain rfl : dd = (m.length, d2) := r1
    obtain rfl : a2 = (A : Int) := r2
    obtain rfl : p2 = (M : Int) := r3
    obtain rfl : b2 = (B : Int) := r4
    obtain rfl : mid2 = (Mi : Int) := r5
    obtain rfl : n2 = ((Mi + M : Nat) : Int) := r8
    obtain rfl : m = m2 := r9.symm
    obtain rfl : s2 = (S : Int) := r6
    have hb : Stab.BS (fun c => !Stab.at_ ltC m (Mi + M - 1 - c) c) (Mi + M - B) (Mi) S := r7
    have hb1 := hb.1
    have hb2 := hb.2.1
    obtain ⟨E, hE⟩ : ∃ E, E = Mi + M - S := ⟨_, rfl⟩
    have eE : wrapF .i64 (Int.sub ((Mi + M : Nat) : Int) (S : Int)) = (E : Int) := by rw [wsub (by omega) (by omega)]; omega
    have fin : ∀ l1 l2 l3 : List Cd, ((S < M ∧ M < E ∧ Stab.RotR m S M E l1) ∨ (¬ (S < M ∧ M < E) ∧ l1 = m)) → ((A < S ∧ S < Mi ∧ Stab.SymR ltC l1 A S Mi l2) ∨ (¬ (A < S ∧ S < Mi) ∧ l2 = l1)) → ((Mi < E ∧ E < B ∧ Stab.SymR ltC l2 Mi E B l3) ∨ (¬ (Mi < E ∧ E < B) ∧ l3 = l2)) → Stab.SymR ltC m A M B l3 := by
     subst hE
     exact fun l1 l2 l3 h1 h2 h3 => Stab.SymR.halves uEy hAM hMB hH (Or.inl ⟨by omega, rfl, rfl⟩) hb h1 h2 h3
    simp only [eE]
    rw [ifp_lt]
    split
    ·rename_i k1
     rw [ifp_lt]
     split
     ·rename_i k2
      refine ⟨m, rfl, (by trivial), ⟨S, M, E, rfl, rfl, rfl, by omega, by omega, by omega, rfl, hm⟩, fun _ d7 hr7 => ?_, trivial⟩
      obtain ⟨m7, _⟩ := d7
      obtain ⟨l7, s7⟩ := hr7
      replace l7 : m7.length = m.length := l7
      rw [ifp_lt]
      split
      ·rename_i f1
       rw [ifp_lt]
       split
       ·rename_i f2
        refine ⟨m7, rfl, (by trivial), ⟨A, S, Mi, rfl, rfl, rfl, by omega, by omega, by omega, by omega, Eq.symm (l7), by omega⟩, fun _ d8 hr8 => ?_, trivial⟩
        obtain ⟨m8, _⟩ := d8
        obtain ⟨l8, s8⟩ := hr8
        have l8' : m8.length = m.length := l8.trans (l7)
        rw [ifp_lt]
        split
        ·rename_i g1
         rw [ifp_lt]
         split
         ·rename_i g2
          refine ⟨m8, rfl, (by trivial), ⟨Mi, E, B, rfl, rfl, rfl, by omega, by omega, by omega, by omega, Eq.symm (l8'), by omega⟩, fun _ d9 hr9 => ?_, trivial⟩
          obtain ⟨m9, _⟩ := d9
          obtain ⟨l9, s9⟩ := hr9
          exact ⟨m9, rfl, (by trivial), l9.trans (l8'), fin m7 m8 m9 (Or.inl ⟨by omega, by omega, s7⟩) (Or.inl ⟨by omega, by omega, s8⟩) (Or.inl ⟨by omega, by omega, s9⟩)⟩
         ·rename_i g2
          exact ⟨m8, rfl, (by trivial), l8', fin m7 m8 m8 (Or.inl ⟨by omega, by omega, s7⟩) (Or.inl ⟨by omega, by omega, s8⟩) (Or.inr ⟨by omega, rfl⟩)⟩
        ·rename_i g1
         exact ⟨m8, rfl, (by trivial), l8', fin m7 m8 m8 (Or.inl ⟨by omega, by omega, s7⟩) (Or.inl ⟨by omega, by omega, s8⟩) (Or.inr ⟨by omega, rfl⟩)⟩
       ·rename_i f2
        rw [ifp_lt]
        split
        ·rename_i g1
         rw [ifp_lt]
         split
         ·rename_i g2
          refine ⟨m7, rfl, (by trivial), ⟨Mi, E, B, rfl, rfl, rfl, by omega, by omega, by omega, by omega, Eq.symm (l7), by omega⟩, fun _ d9 hr9 => ?_, trivial⟩
          obtain ⟨m9, _⟩ := d9
          obtain ⟨l9, s9⟩ := hr9
          exact ⟨m9, rfl, (by trivial), l9.trans (l7), fin m7 m7 m9 (Or.inl ⟨by omega, by omega, s7⟩) (Or.inr ⟨by omega, rfl⟩) (Or.inl ⟨by omega, by omega, s9⟩)⟩
         ·rename_i g2
          exact ⟨m7, rfl, (by trivial), l7, fin m7 m7 m7 (Or.inl ⟨by omega, by omega, s7⟩) (Or.inr ⟨by omega, rfl⟩) (Or.inr ⟨by omega, rfl⟩)⟩
        ·rename_i g1
         exact ⟨m7, rfl, (by trivial), l7, fin m7 m7 m7 (Or.inl ⟨by omega, by omega, s7⟩) (Or.inr ⟨by omega, rfl⟩) (Or.inr ⟨by omega, rfl⟩)⟩
      ·rename_i f1
       rw [ifp_lt]
       split
       ·rename_i g1
        rw [ifp_lt]
        split
        ·rename_i g2
         refine ⟨m7, rfl, (by trivial), ⟨Mi, E, B, rfl, rfl, rfl, by omega, by omega, by omega, by omega, Eq.symm (l7), by omega⟩, fun _ d9 hr9 => ?_, trivial⟩
         obtain ⟨m9, _⟩ := d9
         obtain ⟨l9, s9⟩ := hr9
         exact ⟨m9, rfl, (by trivial), l9.trans (l7), fin m7 m7 m9 (Or.inl ⟨by omega, by omega, s7⟩) (Or.inr ⟨by omega, rfl⟩) (Or.inl ⟨by omega, by omega, s9⟩)⟩
        ·rename_i g2
         exact ⟨m7, rfl, (by trivial), l7, fin m7 m7 m7 (Or.inl ⟨by omega, by omega, s7⟩) (Or.inr ⟨by omega, rfl⟩) (Or.inr ⟨by omega, rfl⟩)⟩
       ·rename_i g1
        exact ⟨m7, rfl, (by trivial), l7, fin m7 m7 m7 (Or.inl ⟨by omega, by omega, s7⟩) (Or.inr ⟨by omega, rfl⟩) (Or.inr ⟨by omega, rfl⟩)⟩
     ·rename_i k2
      rw [ifp_lt]
      split
      ·rename_i f1
       rw [ifp_lt]
       split
       ·rename_i f2
        refine ⟨m, rfl, (by trivial), ⟨A, S, Mi, rfl, rfl, rfl, by omega, by omega, by omega, by omega, Eq.symm (rfl), by omega⟩, fun _ d8 hr8 => ?_, trivial⟩
        obtain ⟨m8, _⟩ := d8
        obtain ⟨l8, s8⟩ := hr8
        have l8' : m8.length = m.length := l8.trans (rfl)
        rw [ifp_lt]
        split
        ·rename_i g1
         rw [ifp_lt]
         split
         ·rename_i g2
          refine ⟨m8, rfl, (by trivial), ⟨Mi, E, B, rfl, rfl, rfl, by omega, by omega, by omega, by omega, Eq.symm (l8'), by omega⟩, fun _ d9 hr9 => ?_, trivial⟩
          obtain ⟨m9, _⟩ := d9
          obtain ⟨l9, s9⟩ := hr9
          exact ⟨m9, rfl, (by trivial), l9.trans (l8'), fin m m8 m9 (Or.inr ⟨by omega, rfl⟩) (Or.inl ⟨by omega, by omega, s8⟩) (Or.inl ⟨by omega, by omega, s9⟩)⟩
         ·rename_i g2
          exact ⟨m8, rfl, (by trivial), l8', fin m m8 m8 (Or.inr ⟨by omega, rfl⟩) (Or.inl ⟨by omega, by omega, s8⟩) (Or.inr ⟨by omega, rfl⟩)⟩
        ·rename_i g1
         exact ⟨m8, rfl, (by trivial), l8', fin m m8 m8 (Or.inr ⟨by omega, rfl⟩) (Or.inl ⟨by omega, by omega, s8⟩) (Or.inr ⟨by omega, rfl⟩)⟩
       ·rename_i f2
        rw [ifp_lt]
        split
        ·rename_i g1
         rw [ifp_lt]
         split
         ·rename_i g2
          refine ⟨m, rfl, (by trivial), ⟨Mi, E, B, rfl, rfl, rfl, by omega, by omega, by omega, by omega, Eq.symm (rfl), by omega⟩, fun _ d9 hr9 => ?_, trivial⟩
          obtain ⟨m9, _⟩ := d9
          obtain ⟨l9, s9⟩ := hr9
          exact ⟨m9, rfl, (by trivial), l9.trans (rfl), fin m m m9 (Or.inr ⟨by omega, rfl⟩) (Or.inr ⟨by omega, rfl⟩) (Or.inl ⟨by omega, by omega, s9⟩)⟩
         ·rename_i g2
          exact ⟨m, rfl, (by trivial), rfl, fin m m m (Or.inr ⟨by omega, rfl⟩) (Or.inr ⟨by omega, rfl⟩) (Or.inr ⟨by omega, rfl⟩)⟩
        ·rename_i g1
         exact ⟨m, rfl, (by trivial), rfl, fin m m m (Or.inr ⟨by omega, rfl⟩) (Or.inr ⟨by omega, rfl⟩) (Or.inr ⟨by omega, rfl⟩)⟩
      ·rename_i f1
       rw [ifp_lt]
       split
       ·rename_i g1
        rw [ifp_lt]
        split
        ·rename_i g2
         refine ⟨m, rfl, (by trivial), ⟨Mi, E, B, rfl, rfl, rfl, by omega, by omega, by omega, by omega, Eq.symm (rfl), by omega⟩, fun _ d9 hr9 => ?_, trivial⟩
         obtain ⟨m9, _⟩ := d9
         obtain ⟨l9, s9⟩ := hr9
         exact ⟨m9, rfl, (by trivial), l9.trans (rfl), fin m m m9 (Or.inr ⟨by omega, rfl⟩) (Or.inr ⟨by omega, rfl⟩) (Or.inl ⟨by omega, by omega, s9⟩)⟩
        ·rename_i g2
         exact ⟨m, rfl, (by trivial), rfl, fin m m m (Or.inr ⟨by omega, rfl⟩) (Or.inr ⟨by omega, rfl⟩) (Or.inr ⟨by omega, rfl⟩)⟩
       ·rename_i g1
        exact ⟨m, rfl, (by trivial), rfl, fin m m m (Or.inr ⟨by omega, rfl⟩) (Or.inr ⟨by omega, rfl⟩) (Or.inr ⟨by omega, rfl⟩)⟩
    ·rename_i k1
     rw [ifp_lt]
     split
     ·rename_i f1
      rw [ifp_lt]
      split
      ·rename_i f2
       refine ⟨m, rfl, (by trivial), ⟨A, S, Mi, rfl, rfl, rfl, by omega, by omega, by omega, by omega, Eq.symm (rfl), by omega⟩, fun _ d8 hr8 => ?_, trivial⟩
       obtain ⟨m8, _⟩ := d8
       obtain ⟨l8, s8⟩ := hr8
       have l8' : m8.length = m.length := l8.trans (rfl)
       rw [ifp_lt]
       split
       ·rename_i g1
        rw [ifp_lt]
        split
        ·rename_i g2
         refine ⟨m8, rfl, (by trivial), ⟨Mi, E, B, rfl, rfl, rfl, by omega, by omega, by omega, by omega, Eq.symm (l8'), by omega⟩, fun _ d9 hr9 => ?_, trivial⟩
         obtain ⟨m9, _⟩ := d9
         obtain ⟨l9, s9⟩ := hr9
         exact ⟨m9, rfl, (by trivial), l9.trans (l8'), fin m m8 m9 (Or.inr ⟨by omega, rfl⟩) (Or.inl ⟨by omega, by omega, s8⟩) (Or.inl ⟨by omega, by omega, s9⟩)⟩
        ·rename_i g2
         exact ⟨m8, rfl, (by trivial), l8', fin m m8 m8 (Or.inr ⟨by omega, rfl⟩) (Or.inl ⟨by omega, by omega, s8⟩) (Or.inr ⟨by omega, rfl⟩)⟩
       ·rename_i g1
        exact ⟨m8, rfl, (by trivial), l8', fin m m8 m8 (Or.inr ⟨by omega, rfl⟩) (Or.inl ⟨by omega, by omega, s8⟩) (Or.inr ⟨by omega, rfl⟩)⟩
      ·rename_i f2
       rw [ifp_lt]
       split
       ·rename_i g1
        rw [ifp_lt]
        split
        ·rename_i g2
         refine ⟨m, rfl, (by trivial), ⟨Mi, E, B, rfl, rfl, rfl, by omega, by omega, by omega, by omega, Eq.symm (rfl), by omega⟩, fun _ d9 hr9 => ?_, trivial⟩
         obtain ⟨m9, _⟩ := d9
         obtain ⟨l9, s9⟩ := hr9
         exact ⟨m9, rfl, (by trivial), l9.trans (rfl), fin m m m9 (Or.inr ⟨by omega, rfl⟩) (Or.inr ⟨by omega, rfl⟩) (Or.inl ⟨by omega, by omega, s9⟩)⟩
        ·rename_i g2
         exact ⟨m, rfl, (by trivial), rfl, fin m m m (Or.inr ⟨by omega, rfl⟩) (Or.inr ⟨by omega, rfl⟩) (Or.inr ⟨by omega, rfl⟩)⟩
       ·rename_i g1
        exact ⟨m, rfl, (by trivial), rfl, fin m m m (Or.inr ⟨by omega, rfl⟩) (Or.inr ⟨by omega, rfl⟩) (Or.inr ⟨by omega, rfl⟩)⟩
     ·rename_i f1
      rw [ifp_lt]
      split
      ·rename_i g1
       rw [ifp_lt]
       split
       ·rename_i g2
        refine ⟨m, rfl, (by trivial), ⟨Mi, E, B, rfl, rfl, rfl, by omega, by omega, by omega, by omega, Eq.symm (rfl), by omega⟩, fun _ d9 hr9 => ?_, trivial⟩
        obtain ⟨m9, _⟩ := d9
        obtain ⟨l9, s9⟩ := hr9
        exact ⟨m9, rfl, (by trivial), l9.trans (rfl), fin m m m9 (Or.inr ⟨by omega, rfl⟩) (Or.inr ⟨by omega, rfl⟩) (Or.inl ⟨by omega, by omega, s9⟩)⟩
       ·rename_i g2
        exact ⟨m, rfl, (by trivial), rfl, fin m m m (Or.inr ⟨by omega, rfl⟩) (Or.inr ⟨by omega, rfl⟩) (Or.inr ⟨by omega, rfl⟩)⟩
      ·rename_i g1
       exact ⟨m, rfl, (by trivial), rfl, fin m m m (Or.inr ⟨by omega, rfl⟩) (Or.inr ⟨by omega, rfl⟩) (Or.inr ⟨by omega, rfl⟩)⟩
   ·rename_i hlt
    refine ⟨uXe, trivial, trivial, m, rfl, (by trivial), ⟨A, M, Mi + M - 1, rfl, rfl, rfl, by omega, by omega, by omega, by omega, rfl, hm⟩, fun c d3 hr => ?_, trivial⟩
    obtain ⟨dd, a2, p2, b2, _, mid2, n2, s2, _⟩ := c
    obtain ⟨m2, _⟩ := d3
    obtain ⟨r1, r2, r3, r4, r5, r8, r9, S, r6, r7⟩ := hr
    obtain rfl : dd = (m.length, d2) := r1
    obtain rfl : a2 = (A : Int) := r2
    obtain rfl : p2 = (M : Int) := r3
    obtain rfl : b2 = (B : Int) := r4
    obtain rfl : mid2 = (Mi : Int) := r5
    obtain rfl : n2 = ((Mi + M : Nat) : Int) := r8
    obtain rfl : m = m2 := r9.symm
    obtain rfl : s2 = (S : Int) := r6
    have hb : Stab.BS (fun c => !Stab.at_ ltC m (Mi + M - 1 - c) c) (A) (M) S := r7
    have hb1 := hb.1
    have hb2 := hb.2.1
    obtain ⟨E, hE⟩ : ∃ E, E = Mi + M - S := ⟨_, rfl⟩
    have eE : wrapF .i64 (Int.sub ((Mi + M : Nat) : Int) (S : Int)) = (E : Int) := by rw [wsub (by omega) (by omega)]; omega
    have fin : ∀ l1 l2 l3 : List Cd, ((S < M ∧ M < E ∧ Stab.RotR m S M E l1) ∨ (¬ (S < M ∧ M < E) ∧ l1 = m)) → ((A < S ∧ S < Mi ∧ Stab.SymR ltC l1 A S Mi l2) ∨ (¬ (A < S ∧ S < Mi) ∧ l2 = l1)) → ((Mi < E ∧ E < B ∧ Stab.SymR ltC l2 Mi E B l3) ∨ (¬ (Mi < E ∧ E < B) ∧ l3 = l2)) → Stab.SymR ltC m A M B l3 := by
     subst hE
     exact fun l1 l2 l3 h1 h2 h3 => Stab.SymR.halves uEy hAM hMB hH (Or.inr ⟨by omega, rfl, rfl⟩) hb h1 h2 h3
    simp only [eE]
    rw [ifp_lt]
    split
    ·rename_i k1
     rw [ifp_lt]
     split
     ·rename_i k2
      refine ⟨m, rfl, (by trivial), ⟨S, M, E, rfl, rfl, rfl, by omega, by omega, by omega, rfl, hm⟩, fun _ d7 hr7 => ?_, trivial⟩
      obtain ⟨m7, _⟩ := d7
      obtain ⟨l7, s7⟩ := hr7
      replace l7 : m7.length = m.length := l7
      rw [ifp_lt]
      split
      ·rename_i f1
       rw [ifp_lt]
       split
       ·rename_i f2
        refine ⟨m7, rfl, (by trivial), ⟨A, S, Mi, rfl, rfl, rfl, by omega, by omega, by omega, by omega, Eq.symm (l7), by omega⟩, fun _ d8 hr8 => ?_, trivial⟩
        obtain ⟨m8, _⟩ := d8
        obtain ⟨l8, s8⟩ := hr8
        have l8' : m8.length = m.length := l8.trans (l7)
        rw [ifp_lt]
        split
        ·rename_i g1
         rw [ifp_lt]
         split
         ·rename_i g2
          refine ⟨m8, rfl, (by trivial), ⟨Mi, E, B, rfl, rfl, rfl, by omega, by omega, by omega, by omega, Eq.symm (l8'), by omega⟩, fun _ d9 hr9 => ?_, trivial⟩
          obtain ⟨m9, _⟩ := d9
          obtain ⟨l9, s9⟩ := hr9
          exact ⟨m9, rfl, (by trivial), l9.trans (l8'), fin m7 m8 m9 (Or.inl ⟨by omega, by omega, s7⟩) (Or.inl ⟨by omega, by omega, s8⟩) (Or.inl ⟨by omega, by omega, s9⟩)⟩
         ·rename_i g2
          exact ⟨m8, rfl, (by trivial), l8', fin m7 m8 m8 (Or.inl ⟨by omega, by omega, s7⟩) (Or.inl ⟨by omega, by omega, s8⟩) (Or.inr ⟨by omega, rfl⟩)⟩
        ·rename_i g1
         exact ⟨m8, rfl, (by trivial), l8', fin m7 m8 m8 (Or.inl ⟨by omega, by omega, s7⟩) (Or.inl ⟨by omega, by omega, s8⟩) (Or.inr ⟨by omega, rfl⟩)⟩
       ·rename_i f2
        rw [ifp_lt]
        split
        ·rename_i g1
         rw [ifp_lt]
         split
         ·rename_i g2
          refine ⟨m7, rfl, (by trivial), ⟨Mi, E, B, rfl, rfl, rfl, by omega, by omega, by omega, by omega, Eq.symm (l7), by omega⟩, fun _ d9 hr9 => ?_, trivial⟩
          obtain ⟨m9, _⟩ := d9
          obtain ⟨l9, s9⟩ := hr9
          exact ⟨m9, rfl, (by trivial), l9.trans (l7), fin m7 m7 m9 (Or.inl ⟨by omega, by omega, s7⟩) (Or.inr ⟨by omega, rfl⟩) (Or.inl ⟨by omega, by omega, s9⟩)⟩
         ·rename_i g2
          exact ⟨m7, rfl, (by trivial), l7, fin m7 m7 m7 (Or.inl ⟨by omega, by omega, s7⟩) (Or.inr ⟨by omega, rfl⟩) (Or.inr ⟨by omega, rfl⟩)⟩
        ·rename_i g1
         exact ⟨m7, rfl, (by trivial), l7, fin m7 m7 m7 (Or.inl ⟨by omega, by omega, s7⟩) (Or.inr ⟨by omega, rfl⟩) (Or.inr ⟨by omega, rfl⟩)⟩
      ·rename_i f1
       rw [ifp_lt]
       split
       ·rename_i g1
        rw [ifp_lt]
        split
        ·rename_i g2
         refine ⟨m7, rfl, (by trivial), ⟨Mi, E, B, rfl, rfl, rfl, by omega, by omega, by omega, by omega, Eq.symm (l7), by omega⟩, fun _ d9 hr9 => ?_, trivial⟩
         obtain ⟨m9, _⟩ := d9
         obtain ⟨l9, s9⟩ := hr9
         exact ⟨m9, rfl, (by trivial), l9.trans (l7), fin m7 m7 m9 (Or.inl ⟨by omega, by omega, s7⟩) (Or.inr ⟨by omega, rfl⟩) (Or.inl ⟨by omega, by omega, s9⟩)⟩
        ·rename_i g2
         exact ⟨m7, rfl, (by trivial), l7, fin m7 m7 m7 (Or.inl ⟨by omega, by omega, s7⟩) (Or.inr ⟨by omega, rfl⟩) (Or.inr ⟨by omega, rfl⟩)⟩
       ·rename_i g1
        exact ⟨m7, rfl, (by trivial), l7, fin m7 m7 m7 (Or.inl ⟨by omega, by omega, s7⟩) (Or.inr ⟨by omega, rfl⟩) (Or.inr ⟨by omega, rfl⟩)⟩
     ·rename_i k2
      rw [ifp_lt]
      split
      ·rename_i f1
       rw [ifp_lt]
       split
       ·rename_i f2
        refine ⟨m, rfl, (by trivial), ⟨A, S, Mi, rfl, rfl, rfl, by omega, by omega, by omega, by omega, Eq.symm (rfl), by omega⟩, fun _ d8 hr8 => ?_, trivial⟩
        obtain ⟨m8, _⟩ := d8
        obtain ⟨l8, s8⟩ := hr8
        have l8' : m8.length = m.length := l8.trans (rfl)
        rw [ifp_lt]
        split
        ·rename_i g1
         rw [ifp_lt]
         split
         ·rename_i g2
          refine ⟨m8, rfl, (by trivial), ⟨Mi, E, B, rfl, rfl, rfl, by omega, by omega, by omega, by omega, Eq.symm (l8'), by omega⟩, fun _ d9 hr9 => ?_, trivial⟩
          obtain ⟨m9, _⟩ := d9
          obtain ⟨l9, s9⟩ := hr9
          exact ⟨m9, rfl, (by trivial), l9.trans (l8'), fin m m8 m9 (Or.inr ⟨by omega, rfl⟩) (Or.inl ⟨by omega, by omega, s8⟩) (Or.inl ⟨by omega, by omega, s9⟩)⟩
         ·rename_i g2
          exact ⟨m8, rfl, (by trivial), l8', fin m m8 m8 (Or.inr ⟨by omega, rfl⟩) (Or.inl ⟨by omega, by omega, s8⟩) (Or.inr ⟨by omega, rfl⟩)⟩
        ·rename_i g1
         exact ⟨m8, rfl, (by trivial), l8', fin m m8 m8 (Or.inr ⟨by omega, rfl⟩) (Or.inl ⟨by omega, by omega, s8⟩) (Or.inr ⟨by omega, rfl⟩)⟩
       ·rename_i f2
        rw [ifp_lt]
        split
        ·rename_i g1
         rw [ifp_lt]
         split
         ·rename_i g2
          refine ⟨m, rfl, (by trivial), ⟨Mi, E, B, rfl, rfl, rfl, by omega, by omega, by omega, by omega, Eq.symm (rfl), by omega⟩, fun _ d9 hr9 => ?_, trivial⟩
          obtain ⟨m9, _⟩ := d9
          obtain ⟨l9, s9⟩ := hr9
          exact ⟨m9, rfl, (by trivial), l9.trans (rfl), fin m m m9 (Or.inr ⟨by omega, rfl⟩) (Or.inr ⟨by omega, rfl⟩) (Or.inl ⟨by omega, by omega, s9⟩)⟩
         ·rename_i g2
          exact ⟨m, rfl, (by trivial), rfl, fin m m m (Or.inr ⟨by omega, rfl⟩) (Or.inr ⟨by omega, rfl⟩) (Or.inr ⟨by omega, rfl⟩)⟩
        ·rename_i g1
         exact ⟨m, rfl, (by trivial), rfl, fin m m m (Or.inr ⟨by omega, rfl⟩) (Or.inr ⟨by omega, rfl⟩) (Or.inr ⟨by omega, rfl⟩)⟩
      ·rename_i f1
       rw [ifp_lt]
       split
       ·rename_i g1
        rw [ifp_lt]
        split
        ·rename_i g2
         refine ⟨m, rfl, (by trivial), ⟨Mi, E, B, rfl, rfl, rfl, by omega, by omega, by omega, by omega, Eq.symm (rfl), by omega⟩, fun _ d9 hr9 => ?_, trivial⟩
         obtain ⟨m9, _⟩ := d9
         obtain ⟨l9, s9⟩ := hr9
         exact ⟨m9, rfl, (by trivial), l9.trans (rfl), fin m m m9 (Or.inr ⟨by omega, rfl⟩) (Or.inr ⟨by omega, rfl⟩) (Or.inl ⟨by omega, by omega, s9⟩)⟩
        ·rename_i g2
         exact ⟨m, rfl, (by trivial), rfl, fin m m m (Or.inr ⟨by omega, rfl⟩) (Or.inr ⟨by omega, rfl⟩) (Or.inr ⟨by omega, rfl⟩)⟩
       ·rename_i g1
        exact ⟨m, rfl, (by trivial), rfl, fin m m m (Or.inr ⟨by omega, rfl⟩) (Or.inr ⟨by omega, rfl⟩) (Or.inr ⟨by omega, rfl⟩)⟩
    ·rename_i k1
     rw [ifp_lt]
     split
     ·rename_i f1
      rw [ifp_lt]
      split
      ·rename_i f2
       refine ⟨m, rfl, (by trivial), ⟨A, S, Mi, rfl, rfl, rfl, by omega, by omega, by omega, by omega, Eq.symm (rfl), by omega⟩, fun _ d8 hr8 => ?_, trivial⟩
       obtain ⟨m8, _⟩ := d8
       obtain ⟨l8, s8⟩ := hr8
       have l8' : m8.length = m.length := l8.trans (rfl)
       rw [ifp_lt]
       split
       ·rename_i g1
        rw [ifp_lt]
        split
        ·rename_i g2
         refine ⟨m8, rfl, (by trivial), ⟨Mi, E, B, rfl, rfl, rfl, by omega, by omega, by omega, by omega, Eq.symm (l8'), by omega⟩, fun _ d9 hr9 => ?_, trivial⟩
         obtain ⟨m9, _⟩ := d9
         obtain ⟨l9, s9⟩ := hr9
         exact ⟨m9, rfl, (by trivial), l9.trans (l8'), fin m m8 m9 (Or.inr ⟨by omega, rfl⟩) (Or.inl ⟨by omega, by omega, s8⟩) (Or.inl ⟨by omega, by omega, s9⟩)⟩
        ·rename_i g2
         exact ⟨m8, rfl, (by trivial), l8', fin m m8 m8 (Or.inr ⟨by omega, rfl⟩) (Or.inl ⟨by omega, by omega, s8⟩) (Or.inr ⟨by omega, rfl⟩)⟩
       ·rename_i g1
        exact ⟨m8, rfl, (by trivial), l8', fin m m8 m8 (Or.inr ⟨by omega, rfl⟩) (Or.inl ⟨by omega, by omega, s8⟩) (Or.inr ⟨by omega, rfl⟩)⟩
      ·rename_i f2
       rw [ifp_lt]
       split
       ·rename_i g1
        rw [ifp_lt]
        split
        ·rename_i g2
         refine ⟨m, rfl, (by trivial), ⟨Mi, E, B, rfl, rfl, rfl, by omega, by omega, by omega, by omega, Eq.symm (rfl), by omega⟩, fun _ d9 hr9 => ?_, trivial⟩
         obtain ⟨m9, _⟩ := d9
         obtain ⟨l9, s9⟩ := hr9
         exact ⟨m9, rfl, (by trivial), l9.trans (rfl), fin m m m9 (Or.inr ⟨by omega, rfl⟩) (Or.inr ⟨by omega, rfl⟩) (Or.inl ⟨by omega, by omega, s9⟩)⟩
        ·rename_i g2
         exact ⟨m, rfl, (by trivial), rfl, fin m m m (Or.inr ⟨by omega, rfl⟩) (Or.inr ⟨by omega, rfl⟩) (Or.inr ⟨by omega, rfl⟩)⟩
       ·rename_i g1
        exact ⟨m, rfl, (by trivial), rfl, fin m m m (Or.inr ⟨by omega, rfl⟩) (Or.inr ⟨by omega, rfl⟩) (Or.inr ⟨by omega, rfl⟩)⟩
     ·rename_i f1
      rw [ifp_lt]
      split
      ·rename_i g1
       rw [ifp_lt]
       split
       ·rename_i g2
        refine ⟨m, rfl, (by trivial), ⟨Mi, E, B, rfl, rfl, rfl, by omega, by omega, by omega, by omega, Eq.symm (rfl), by omega⟩, fun _ d9 hr9 => ?_, trivial⟩
        obtain ⟨m9, _⟩ := d9
        obtain ⟨l9, s9⟩ := hr9
        exact ⟨m9, rfl, (by trivial), l9.trans (rfl), fin m m m9 (Or.inr ⟨by omega, rfl⟩) (Or.inr ⟨by omega, rfl⟩) (Or.inl ⟨by omega, by omega, s9⟩)⟩
       ·rename_i g2
        exact ⟨m, rfl, (by trivial), rfl, fin m m m (Or.inr ⟨by omega, rfl⟩) (Or.inr ⟨by omega, rfl⟩) (Or.inr ⟨by omega, rfl⟩)⟩
      ·rename_i g1
       exact ⟨m, rfl, (by trivial), rfl, fin m m m (Or.inr ⟨by omega, rfl⟩) (Or.inr ⟨by omega, rfl⟩) (Or.inr ⟨by omega, rfl⟩)⟩
theorem uR5 : ∀ D, CcOk PP 66 (symK D)
 | 0 => call_ok mixed (K := KLS [] [] 42) (n := 0) (vm := false) (rw' := fun _ => false) (KLS_ok (cc_nil)) rfl (fun z hp => ((fun (z : symZ) (h : uAj 0 z) => (by obtain ⟨⟨d, a, p, b, _, _⟩, m, _⟩ := z; obtain ⟨A, M, B, _, _, _, _, _, _, h, _⟩ := h; omega : False)) z hp).elim)
 | D + 1 => call_ok mixed (KLS_ok (cc_cons uEv (cc_cons rotCc (cc_cons (uR5 D) (cc_nil))))) rfl (symStep D)
end Go.Proofs.YteehkdejkemnmaaDoor
namespace Go.Proofs.YteehkdejkemnmaaDoor
open Go.Det Go.RowKit
set_option maxRecDepth 100000
theorem uQ4 {a b : Int} {x y : Prop} : ifp (leInt a b) x y = if a ≤ b then x else y := by
 by_cases h : a ≤ b
 ·rw [ifp_pos (by rw [leInt_eq]; simpa using h), if_pos h]
 ·rw [ifp_neg (by rw [leInt_eq]; simpa using h), if_neg h]
abbrev uL2 := (Nat × Nat) × Int × Unit × Int × Int × Int × Unit
abbrev st1Z := uL2 × ((List Cd) × Unit)
noncomputable def uUn : Tel uL2 := .cons 0 (.slq 0 4) (.ji 1 (.cons 2 (.fnp 43 []) (.ji 6 (.ji 7 (.ji 8 (.nil))))))
noncomputable def uUq : BTel ((List Cd) × Unit) := .cons (.rows Ec 42) (.nil)
noncomputable def uUp : List (LForm st1Z) := [⟨_, _, uUn, uUq, fun x y => (x, y)⟩]
abbrev uH2 := (Nat × Nat) × Int × Unit × Int × Int × Unit
abbrev uA5 := (List Cd) × Unit
noncomputable def uI7 (R0 : st1Z → uH2 → uA5 → Prop) : List (Alt st1Z) := [⟨.exit 0, uH2, uA5, .cons 0 (.slq 0 4) (.ji 1 (.cons 2 (.fnp 43 []) (.ji 6 (.ji 7 (.nil))))), .cons (.rows Ec 42) (.nil), R0⟩]
theorem st1Form (d : Nat × Nat) (n w a b : Int) (m : List Cd) (N : st1Z → Prop) (R0 : st1Z → uH2 → uA5 → Prop) : ((runW PP (KLS [(65, insK)] [] 42) 100).code none 59 63 (loopBody PP 59 2) (mkT (uUn.av id (d, n, (), w, a, b, ()))) [] (stL false (uUq.obs id (m, ()))) (postL 1 uUp (uI7 R0) ((d, n, (), w, a, b, ()), m, ()) N)) = ( ifp (leInt b n) (∃ l, Sa Ec m l ∧ true = true ∧ uMy ((d, a, b, (), ()), l, ()) ∧ (∀ c d_1, uSq ((d, a, b, (), ()), l, ()) c d_1 → True ∧ ∃ l, Sa Ec d_1.1 l ∧ true = true ∧ N ((d, n, (), w, b, wrapF .i64 (b.add w), ()), l, ())) ∧ True) (True ∧ ∃ l, Sa Ec m l ∧ true = true ∧ R0 ((d, n, (), w, a, b, ()), m, ()) (d, n, (), w, a, ()) (l, ()))) := by kernel_rfl
def uN2 : st1Z → Prop := fun ((d, n, (), w, a, b, ()), m, ()) => ∃ A : Nat, a = A ∧ w = 20 ∧ b = ((A + 20 : Nat) : Int) ∧ n = (m.length : Int) ∧ A ≤ m.length ∧ d.1 = m.length ∧ m.length ≤ 1000000
def uXb : st1Z → Nat := fun ((d, n, (), w, a, b, ()), m, ()) => n.toNat + 21 - b.toNat
def uUo : st1Z → uH2 → uA5 → Prop := fun ((d, n, (), w, a, b, ()), m, ()) (d2, n2, _, w2, a2, _) (m2, _) => d2 = d ∧ n2 = n ∧ w2 = w ∧ m2.length = m.length ∧ ∃ A2 : Nat, a2 = A2 ∧ A2 ≤ m.length ∧ m.length < A2 + 20 ∧ ∀ m3, Stab.SortR ltC m2 A2 m.length m3 → Stab.StR1 ltC 20 m a.toNat m3
noncomputable def st1C : LoopC := loopC 1 uUp (uI7 uUo) uN2
theorem st1Step : stepsOk PP (KLS [(65, insK)] [] 42) 100 59 63 (loopBody PP 59 2) 1 false uUp (uI7 uUo) uN2 uXb ⟨_, _, uUn, uUq, fun x y => (x, y)⟩ := by
 intro x y hz
 obtain ⟨d, n, _, w, a, b, _⟩ := x
 obtain ⟨m, _⟩ := y
 refine (st1Form d n w a b m _ _).mpr ?_
 obtain ⟨A, rfl, rfl, rfl, rfl, hA, hd, hm⟩ := hz
 obtain ⟨d1, d2⟩ := d
 obtain rfl : d1 = m.length := hd
 rw [uQ4]
 split
 ·rename_i h
  have e1 : wrapF .i64 (Int.add ((A + 20 : Nat) : Int) 20) = ((A + 20 + 20 : Nat) : Int) := by rw [wadd (by omega) (by omega)]; omega
  simp only [e1]
  refine ⟨m, rfl, (by trivial), ⟨A, A + 20, rfl, rfl, by omega, by omega, rfl, hm⟩, fun _ d3 hr => ?_, trivial⟩
  obtain ⟨m2, _⟩ := d3
  obtain ⟨l2, s2⟩ := hr
  replace l2 : m2.length = m.length := l2
  refine ⟨trivial, m2, rfl, (by trivial), ⟨A + 20, rfl, rfl, rfl, by rw [l2], by omega, l2.symm, by omega⟩, by show m.length + 21 - (A + 20 + 20) < m.length + 21 - (A + 20); omega, fun c d4 hr4 => ?_, trivial⟩
  obtain ⟨dd, n2, _, w2, a2, _⟩ := c
  obtain ⟨m4, _⟩ := d4
  obtain ⟨r1, r2, r3, r4, A2, r5, r6, r7, r8⟩ := hr4
  rw [l2] at r6 r7 r8
  exact ⟨r1, r2, r3, r4.trans l2, A2, r5, r6, r7, fun m3 h3 => Stab.StR1.step (by show A + 20 ≤ m.length; omega) s2 (r8 m3 h3)⟩
 ·rename_i h
  exact ⟨trivial, m, rfl, (by trivial), rfl, rfl, rfl, rfl, A, rfl, hA, by omega, fun m3 h3 => Stab.StR1.done (by show m.length < A + 20; omega) h3⟩
theorem st1Ok : LoopOk PP 59 63 (.loop (loopBody PP 59 2)) (st1C) := loop_ok uXb  mixed (KLS_ok (cc_cons uXx (cc_nil))) rfl (steps_cons st1Step (steps_nil))
abbrev st3Z := uL2 × uA5
noncomputable def uUf : Tel uL2 := .cons 0 (.slq 0 4) (.ji 1 (.cons 2 (.fnp 43 []) (.ji 6 (.ji 7 (.ji 8 (.nil))))))
noncomputable def uUi : BTel uA5 := .cons (.rows Ec 42) (.nil)
noncomputable def uUh : List (LForm st3Z) := [⟨_, _, uUf, uUi, fun x y => (x, y)⟩]
noncomputable def uI5 (R0 : st3Z → uH2 → uA5 → Prop) : List (Alt st3Z) := [⟨.exit 4, uH2, uA5, .cons 0 (.slq 0 4) (.ji 1 (.cons 2 (.fnp 43 []) (.ji 6 (.ji 7 (.nil))))), .cons (.rows Ec 42) (.nil), R0⟩]
theorem st3Form (d : Nat × Nat) (n w a b : Int) (m : List Cd) (N : st3Z → Prop) (R0 : st3Z → uH2 → uA5 → Prop) : ((runW PP (KLS [(66, symK 1000001)] [] 42) 100).code none 59 63 (loopBody PP 59 9) (mkT (uUf.av id (d, n, (), w, a, b, ()))) [] (stL false (uUi.obs id (m, ()))) (postL 1 uUh (uI5 R0) ((d, n, (), w, a, b, ()), m, ()) N)) = ( ifp (leInt b n) (∃ l, Sa Ec m l ∧ true = true ∧ uAj 1000001 ((d, a, wrapF .i64 (a.add w), b, (), ()), l, ()) ∧ (∀ c d_1, uA4 ((d, a, wrapF .i64 (a.add w), b, (), ()), l, ()) c d_1 → True ∧ ∃ l, Sa Ec d_1.1 l ∧ true = true ∧ N ((d, n, (), w, b, wrapF .i64 (b.add (wrapF .i64 (Int.mul 2 w))), ()), l, ())) ∧ True) (True ∧ ∃ l, Sa Ec m l ∧ true = true ∧ R0 ((d, n, (), w, a, b, ()), m, ()) (d, n, (), w, a, ()) (l, ()))) := by kernel_rfl
def uN0 : st3Z → Prop := fun ((d, n, (), w, a, b, ()), m, ()) => ∃ A W : Nat, a = A ∧ w = W ∧ 0 < W ∧ W ≤ 1000000 ∧ b = ((A + 2 * W : Nat) : Int) ∧ n = (m.length : Int) ∧ A ≤ m.length ∧ d.1 = m.length ∧ m.length ≤ 1000000
def uW9 : st3Z → Nat := fun ((d, n, (), w, a, b, ()), m, ()) => n.toNat + 2 * w.toNat + 1 - b.toNat
def uUg : st3Z → uH2 → uA5 → Prop := fun ((d, n, (), w, a, b, ()), m, ()) (d2, n2, _, w2, a2, _) (m2, _) => d2 = d ∧ n2 = n ∧ w2 = w ∧ m2.length = m.length ∧ ∃ A2 : Nat, a2 = A2 ∧ A2 ≤ m.length ∧ m.length < A2 + 2 * w.toNat ∧ ∀ m3, Stab.PassR ltC w.toNat m2 A2 m3 → Stab.PassR ltC w.toNat m a.toNat m3
noncomputable def st3C : LoopC := loopC 1 uUh (uI5 uUg) uN0
theorem st3Step : stepsOk PP (KLS [(66, symK 1000001)] [] 42) 100 59 63 (loopBody PP 59 9) 1 false uUh (uI5 uUg) uN0 uW9 ⟨_, _, uUf, uUi, fun x y => (x, y)⟩ := by
 intro x y hz
 obtain ⟨d, n, _, w, a, b, _⟩ := x
 obtain ⟨m, _⟩ := y
 refine (st3Form d n w a b m _ _).mpr ?_
 obtain ⟨A, W, rfl, rfl, hW, hW2, rfl, rfl, hA, hd, hm⟩ := hz
 obtain ⟨d1, d2⟩ := d
 obtain rfl : d1 = m.length := hd
 rw [uQ4]
 split
 ·rename_i h
  have e0 : wrapF .i64 (Int.mul 2 (W : Int)) = ((2 * W : Nat) : Int) := by rw [w64 (by show _ ≤ 2 * (W : Int); omega) (by show 2 * (W : Int) < _; omega)]; show 2 * (W : Int) = _; omega
  have e1 : wrapF .i64 (Int.add ((A + 2 * W : Nat) : Int) ((2 * W : Nat) : Int)) = ((A + 2 * W + 2 * W : Nat) : Int) := by rw [wadd (by omega) (by omega)]; omega
  have e2 : wrapF .i64 (Int.add (A : Int) (W : Int)) = ((A + W : Nat) : Int) := by rw [wadd (by omega) (by omega)]; omega
  simp only [e0, e1, e2]
  refine ⟨m, rfl, (by trivial), ⟨A, A + W, A + 2 * W, rfl, rfl, rfl, by omega, by omega, by omega, by omega, rfl, hm⟩, fun _ d3 hr => ?_, trivial⟩
  obtain ⟨m2, _⟩ := d3
  obtain ⟨l2, s2⟩ := hr
  replace l2 : m2.length = m.length := l2
  refine ⟨trivial, m2, rfl, (by trivial), ⟨A + 2 * W, W, rfl, rfl, hW, hW2, rfl, by rw [l2], by omega, l2.symm, by omega⟩, by show m.length + 2 * W + 1 - (A + 2 * W + 2 * W) < m.length + 2 * W + 1 - (A + 2 * W); omega, fun c d4 hr4 => ?_, trivial⟩
  obtain ⟨dd, n2, _, w2, a2, _⟩ := c
  obtain ⟨m4, _⟩ := d4
  obtain ⟨r1, r2, r3, r4, A2, r5, r6, r7, r8⟩ := hr4
  rw [l2] at r6 r7
  exact ⟨r1, r2, r3, r4.trans l2, A2, r5, r6, r7, fun m3 h3 => Stab.PassR.step uEy (by show A + 2 * W ≤ m.length; omega) s2 (r8 m3 h3)⟩
 ·rename_i h
  exact ⟨trivial, m, rfl, (by trivial), rfl, rfl, rfl, rfl, A, rfl, hA, by show m.length < A + 2 * W; omega, fun m3 h3 => h3⟩
theorem st3Ok : LoopOk PP 59 63 (.loop (loopBody PP 59 9)) (st3C) := loop_ok uW9  mixed (KLS_ok (cc_cons (uR5 1000001) (cc_nil))) rfl (steps_cons st3Step (steps_nil))
abbrev st2Z := ((Nat × Nat) × Int × Unit × Int × Unit) × uA5
noncomputable def uUj : Tel ((Nat × Nat) × Int × Unit × Int × Unit) := .cons 0 (.slq 0 4) (.ji 1 (.cons 2 (.fnp 43 []) (.ji 6 (.nil))))
noncomputable def uUm : BTel uA5 := .cons (.rows Ec 42) (.nil)
noncomputable def uUl : List (LForm st2Z) := [⟨_, _, uUj, uUm, fun x y => (x, y)⟩]
noncomputable def uI6 (R0 : st2Z → (Unit) → uA5 → Prop) : List (Alt st2Z) := [⟨.exit 2, Unit, uA5, .nil, .cons (.rows Ec 42) (.nil), R0⟩]
theorem st2Form (d : Nat × Nat) (n w : Int) (m : List Cd) (N : st2Z → Prop) (R0 : st2Z → (Unit) → uA5 → Prop) : ((runW PP (KLS [(66, symK 1000001)] [(59, [(9, st3C)])] 42) 100).code none 59 63 (loopBody PP 59 7) (mkT (uUj.av id (d, n, (), w, ()))) [] (stL false (uUm.obs id (m, ()))) (postL 1 uUl (uI6 R0) ((d, n, (), w, ()), m, ()) N)) = ( ifp (!leInt n w) (LoopOk PP 59 63 (loopBody PP 59 9).loop st3C ∧ True ∧ True ∧ ∃ l, Sa Ec m l ∧ true = true ∧ uN0 ((d, n, (), w, 0, wrapF .i64 (Int.mul 2 w), ()), l, ()) ∧ (∀ c d_1, uUg ((d, n, (), w, 0, wrapF .i64 (Int.mul 2 w), ()), l, ()) c d_1 → ifp (!leInt c.2.1 (wrapF .i64 (c.2.2.2.2.1.add c.2.2.2.1))) (∃ l, Sa Ec d_1.1 l ∧ true = true ∧ uAj 1000001 ((c.1, c.2.2.2.2.1, wrapF .i64 (c.2.2.2.2.1.add c.2.2.2.1), c.2.1, (), ()), l, ()) ∧ (∀ c_1 d, uA4 ((c.1, c.2.2.2.2.1, wrapF .i64 (c.2.2.2.2.1.add c.2.2.2.1), c.2.1, (), ()), l, ()) c_1 d → True ∧ ∃ l, Sa Ec d.1 l ∧ true = true ∧ N ((c.1, c.2.1, (), wrapF .i64 (c.2.2.2.1.mul 2), ()), l, ())) ∧ True) (True ∧ ∃ l, Sa Ec d_1.1 l ∧ true = true ∧ N ((c.1, c.2.1, (), wrapF .i64 (c.2.2.2.1.mul 2), ()), l, ()))) ∧ True) (True ∧ ∃ l, Sa Ec m l ∧ true = true ∧ R0 ((d, n, (), w, ()), m, ()) () (l, ()))) := by kernel_rfl
def uN1 : st2Z → Prop := fun ((d, n, (), w, ()), m, ()) => ∃ W : Nat, w = W ∧ 0 < W ∧ W ≤ 2000000 ∧ n = (m.length : Int) ∧ d.1 = m.length ∧ m.length ≤ 1000000
def uXa : st2Z → Nat := fun ((d, n, (), w, ()), m, ()) => n.toNat - w.toNat
def uUk : st2Z → (Unit) → uA5 → Prop := fun ((d, n, (), w, ()), m, ()) _ (m2, _) => m2.length = m.length ∧ Stab.StR2 ltC w.toNat m m2
noncomputable def st2C : LoopC := loopC 1 uUl (uI6 uUk) uN1
theorem st2Step : stepsOk PP (KLS [(66, symK 1000001)] [(59, [(9, st3C)])] 42) 100 59 63 (loopBody PP 59 7) 1 false uUl (uI6 uUk) uN1 uXa ⟨_, _, uUj, uUm, fun x y => (x, y)⟩ := by
 intro x y hz
 obtain ⟨d, n, _, w, _⟩ := x
 obtain ⟨m, _⟩ := y
 refine (st2Form d n w m _ _).mpr ?_
 obtain ⟨W, rfl, hW, hW2, rfl, hd, hm⟩ := hz
 obtain ⟨d1, d2⟩ := d
 obtain rfl : d1 = m.length := hd
 rw [ifp_lt]
 split
 ·rename_i h
  have e0 : wrapF .i64 (Int.mul 2 (W : Int)) = ((0 + 2 * W : Nat) : Int) := by rw [w64 (by show _ ≤ 2 * (W : Int); omega) (by show 2 * (W : Int) < _; omega)]; show 2 * (W : Int) = _; omega
  refine ⟨st3Ok, trivial, trivial, m, rfl, (by trivial), ⟨0, W, rfl, rfl, hW, by omega, e0, rfl, Nat.zero_le _, rfl, hm⟩, fun c d3 hr => ?_, trivial⟩
  obtain ⟨dd, n2, _, w2, a2, _⟩ := c
  obtain ⟨m2, _⟩ := d3
  obtain ⟨r1, r2, r3, r4, A2, r5, r6, r7, r8⟩ := hr
  obtain rfl : dd = (m.length, d2) := r1
  obtain rfl : n2 = (m.length : Int) := r2
  obtain rfl : w2 = (W : Int) := r3
  obtain rfl : a2 = (A2 : Int) := r5
  replace r4 : m2.length = m.length := r4
  replace r7 : m.length < A2 + 2 * W := r7
  have e1 : wrapF .i64 (Int.add (A2 : Int) (W : Int)) = ((A2 + W : Nat) : Int) := by rw [wadd (by omega) (by omega)]; omega
  have e2 : wrapF .i64 (Int.mul (W : Int) 2) = ((2 * W : Nat) : Int) := by rw [w64 (by show _ ≤ (W : Int) * 2; omega) (by show (W : Int) * 2 < _; omega)]; show (W : Int) * 2 = _; omega
  simp only [e1, e2]
  rw [ifp_lt]
  split
  ·rename_i h2
   refine ⟨m2, rfl, (by trivial), ⟨A2, A2 + W, m.length, rfl, rfl, rfl, by omega, by omega, by omega, by omega, r4.symm, by omega⟩, fun _ d4 hr4 => ?_, trivial⟩
   obtain ⟨m3, _⟩ := d4
   obtain ⟨l3, s3⟩ := hr4
   have l3' : m3.length = m.length := l3.trans r4
   refine ⟨trivial, m3, rfl, (by trivial), ⟨2 * W, rfl, by omega, by omega, by rw [l3'], l3'.symm, by omega⟩, by show m.length - 2 * W < m.length - W; omega, fun _ d5 hr5 => ⟨hr5.1.trans l3', Stab.StR2.step (r8 m3 (Stab.PassR.part uEy (by rw [r4]; exact r7) (by rw [r4]; show A2 + W < m.length; omega) (by rw [r4]; exact s3))) hr5.2⟩, trivial⟩
  ·rename_i h2
   refine ⟨trivial, m2, rfl, (by trivial), ⟨2 * W, rfl, by omega, by omega, by rw [r4], r4.symm, by omega⟩, by show m.length - 2 * W < m.length - W; omega, fun _ d5 hr5 => ⟨hr5.1.trans r4, Stab.StR2.step (r8 m2 (Stab.PassR.none uEy (by rw [r4]; show m.length ≤ A2 + W; omega))) hr5.2⟩, trivial⟩
 ·rename_i h
  exact ⟨trivial, m, rfl, (by trivial), rfl, Stab.StR2.done (by show m.length ≤ W; omega)⟩
theorem st2Ok : LoopOk PP 59 63 (.loop (loopBody PP 59 7)) (st2C) := loop_ok uXa  mixed (KLS_ok (cc_cons (uR5 1000001) (cc_nil))) rfl (steps_cons st2Step (steps_nil))
abbrev uM3 := ((Nat × Nat) × Int × Unit × Unit) × uA5
noncomputable def uUd : Tel ((Nat × Nat) × Int × Unit × Unit) := .cons 0 (.slq 0 4) (.ji 1 (.cons 2 (.fnp 43 []) (.nil)))
noncomputable def uNz : BTel uA5 := .cons (.rows Ec 42) (.nil)
noncomputable def uI3 (R0 : uM3 → (Unit) → uA5 → Prop) : List (Res uM3) := [⟨Unit, uA5, .nil, .cons (.rows Ec 42) (.nil), R0⟩]
theorem stabFn (d : Nat × Nat) (n : Int) (m : List Cd) (R0 : uM3 → (Unit) → uA5 → Prop) : (callW PP (runW PP (KLS [(65, insK), (66, symK 1000001)] [(59, [(2, st1C), (7, st2C)])] 42) 200) 59 (uUd.cells id (d, n, (), ())) (stL false (uNz.obs id (m, ()))) (fun v st => resAny 1 ((d, n, (), ()), m, ()) v st (uI3 R0))) = ( LoopOk PP 59 63 (loopBody PP 59 2).loop st1C ∧ True ∧ True ∧ ∃ l, Sa Ec m l ∧ true = true ∧ uN2 ((d, n, (), 20, 0, 20, ()), l, ()) ∧ (∀ c d_1, uUo ((d, n, (), 20, 0, 20, ()), l, ()) c d_1 → ∃ l, Sa Ec d_1.1 l ∧ true = true ∧ uMy ((c.1, c.2.2.2.2.1, c.2.1, (), ()), l, ()) ∧ (∀ c_1 d_2, uSq ((c.1, c.2.2.2.2.1, c.2.1, (), ()), l, ()) c_1 d_2 → LoopOk PP 59 63 (loopBody PP 59 7).loop st2C ∧ True ∧ True ∧ ∃ l, Sa Ec d_2.1 l ∧ true = true ∧ uN1 ((c.1, c.2.1, (), c.2.2.2.1, ()), l, ()) ∧ (∀ c_2 d_3, uUk ((c.1, c.2.1, (), c.2.2.2.1, ()), l, ()) c_2 d_3 → ∃ l, Sa Ec d_3.1 l ∧ true = true ∧ R0 ((d, n, (), ()), m, ()) () (l, ())) ∧ True) ∧ True) ∧ True) := by kernel_rfl
def uI4 : uM3 → Prop := fun ((d, n, (), ()), m, ()) => n = (m.length : Int) ∧ d.1 = m.length ∧ m.length ≤ 1000000
def uNy : uM3 → (Unit) → uA5 → Prop := fun ((d, n, (), ()), m, ()) _ (m2, _) => m2 = Stab.sort ltC m
noncomputable def uUe : CallC := callC 1 uUd uNz uI4 (uI3 uNy)
theorem stabStep (z : uM3) (hp : uI4 z) : callW PP (runW PP (KLS [(65, insK), (66, symK 1000001)] [(59, [(2, st1C), (7, st2C)])] 42) 200) 59 (uUd.cells id z.1) (stL false (uNz.obs id z.2)) (fun v st => resAny 1 z v st (uI3 uNy)) := by
 obtain ⟨⟨d, n, _, _⟩, ⟨m, _⟩⟩ := z
 refine (stabFn d n m _).mpr ?_
 obtain ⟨rfl, hd, hm⟩ := hp
 obtain ⟨d1, d2⟩ := d
 obtain rfl : d1 = m.length := hd
 refine ⟨st1Ok, trivial, trivial, m, rfl, (by trivial), ⟨0, rfl, rfl, rfl, rfl, Nat.zero_le _, rfl, hm⟩, fun c d3 hr => ?_, trivial⟩
 obtain ⟨dd, n2, _, w2, a2, _⟩ := c
 obtain ⟨m2, _⟩ := d3
 obtain ⟨r1, r2, r3, r4, A2, r5, r6, r7, r8⟩ := hr
 obtain rfl : dd = (m.length, d2) := r1
 obtain rfl : n2 = (m.length : Int) := r2
 obtain rfl : w2 = 20 := r3
 obtain rfl : a2 = (A2 : Int) := r5
 replace r4 : m2.length = m.length := r4
 refine ⟨m2, rfl, (by trivial), ⟨A2, m.length, rfl, rfl, r6, by omega, r4.symm, by omega⟩, fun _ d4 hr4 => ?_, trivial⟩
 obtain ⟨m3, _⟩ := d4
 obtain ⟨l3, s3⟩ := hr4
 replace l3 : m3.length = m.length := l3.trans r4
 refine ⟨st2Ok, trivial, trivial, m3, rfl, (by trivial), ⟨20, rfl, by omega, by omega, by rw [l3], l3.symm, by omega⟩, fun _ d5 hr5 => ?_, trivial⟩
 obtain ⟨m5, _⟩ := d5
 obtain ⟨l5, s5⟩ := hr5
 refine ⟨m5, rfl, (by trivial), ?_⟩
 obtain ⟨R', q1, q2⟩ := r8 m3 s3 [] m rfl rfl
 obtain rfl : m3 = R' := q1
 exact s5 m q2
theorem stabCc : CcOk PP 59 uUe := call_ok mixed (KLS_ok (cc_cons uXx (cc_cons (uR5 1000001) (cc_nil)))) rfl stabStep
abbrev uE6 := ((Nat × Nat) × Unit × Unit) × uA5
noncomputable def uN3 : Tel ((Nat × Nat) × Unit × Unit) := .cons 0 (.slq 0 4) (.cons 1 (.fnp 43 []) (.nil))
noncomputable def uI8 : BTel uA5 := .cons (.rows Ec 42) (.nil)
noncomputable def uFs (R0 : uE6 → (Unit) → uA5 → Prop) : List (Res uE6) := [⟨Unit, uA5, .nil, .cons (.rows Ec 42) (.nil), R0⟩]
theorem sstabFn (d : Nat × Nat) (m : List Cd) (R0 : uE6 → (Unit) → uA5 → Prop) : (callW PP (runW PP (KLS [(59, uUe)] [] 42) 200) 42 (uN3.cells id (d, (), ())) (stL false (uI8.obs id (m, ()))) (fun v st => resAny 1 ((d, (), ()), m, ()) v st (uFs R0))) = ( ∃ l, Sa Ec m l ∧ true = true ∧ uI4 ((d, Int.ofNat d.1, (), ()), l, ()) ∧ (∀ c d_1, uNy ((d, Int.ofNat d.1, (), ()), l, ()) c d_1 → ∃ l, Sa Ec d_1.1 l ∧ true = true ∧ R0 ((d, (), ()), m, ()) () (l, ())) ∧ True) := by kernel_rfl
def uDl : uE6 → Prop := fun ((d, (), ()), m, ()) => d.1 = m.length ∧ m.length ≤ 1000000
def uFt : uE6 → (Unit) → uA5 → Prop := fun ((d, (), ()), m, ()) _ (m2, _) => m2 = Stab.sort ltC m
noncomputable def uLm : CallC := callC 1 uN3 uI8 uDl (uFs uFt)
theorem sstabStep (z : uE6) (hp : uDl z) : callW PP (runW PP (KLS [(59, uUe)] [] 42) 200) 42 (uN3.cells id z.1) (stL false (uI8.obs id z.2)) (fun v st => resAny 1 z v st (uFs uFt)) := by
 obtain ⟨⟨d, _, _⟩, ⟨m, _⟩⟩ := z
 refine (sstabFn d m _).mpr ?_
 obtain ⟨hd, hm⟩ := hp
 obtain ⟨d1, d2⟩ := d
 obtain rfl : d1 = m.length := hd
 refine ⟨m, rfl, (by trivial), ⟨rfl, rfl, hm⟩, fun _ d3 hr => ?_, trivial⟩
 obtain ⟨m2, _⟩ := d3
 exact ⟨m2, rfl, (by trivial), hr⟩
theorem uN4 : CcOk PP 42 uLm := call_ok mixed (KLS_ok (cc_cons stabCc (cc_nil))) rfl sstabStep
end Go.Proofs.YteehkdejkemnmaaDoor
namespace Go.Proofs.YteehkdejkemnmaaDoor
open Go.Det Go.RowKit
set_option maxRecDepth 100000
abbrev Near := Int × Int × Unit
abbrev En : Enc Near := Enc.pair (Enc.int .i64) (Enc.pair (Enc.int .i64) Enc.unit)
def ordV (a b : Near) : Int := if cmpV a.1 b.1 ≠ 0 then cmpV a.1 b.1 else cmpV a.2.1 b.2.1
def uAe (a b : Near) : Bool := decide (ordV a b < 0)
noncomputable def uPx : Tel (Near × Near × Unit) := .cons 0 (.agg En) (.cons 1 (.agg En) (.nil))
theorem orderFn (a b : Near) (Q : AV → Prop) : (callW PP (runW PP (KL [(45, cmpK)] []) 200) 48 (uPx.cells id (a, b, ())) (stE false) (fun x st => frzW st x Q)) = ( uFk (a.1, b.1, ()) ∧ uFk (a.2.1, b.2.1, ()) ∧ idxOk 0 2 ∧ ifp (!eqInt (cmpV a.1 b.1) 0) (True ∧ True ∧ (I64 a.2.1 = I64 a.2.1 ∧ True) ∧ (I64 b.2.1 = I64 b.2.1 ∧ True) ∧ Q (I64 (cmpV a.1 b.1))) (idxOk (wrapF .i64 (Int.add 0 1)) 2 ∧ ifp (!eqInt (cmpV a.2.1 b.2.1) 0) (True ∧ True ∧ (I64 a.2.1 = I64 a.2.1 ∧ True) ∧ (I64 b.2.1 = I64 b.2.1 ∧ True) ∧ Q (I64 (cmpV a.2.1 b.2.1))) (True ∧ True ∧ (I64 a.2.1 = I64 a.2.1 ∧ True) ∧ (I64 b.2.1 = I64 b.2.1 ∧ True) ∧ Q (I64 0)))) := by kernel_rfl
def uGp : Near × Near × Unit → Prop := fun (a, b, ()) => True
noncomputable def uMo : Near × Near × Unit → AV := fun (a, b, ()) => .int .i64 (ordV a b)
noncomputable def uTl : CallC := valC uPx uGp uMo
theorem uMn (a : Near) (b : Near) (hp : uGp (a, b, ())) : Val PP 48 (uPx.cells id (a, b, ())) (uMo (a, b, ())) := by
 refine Val.ofF mixed (KL_ok (cc_cons uX3 (cc_nil))) (freesC rfl _) (orderFn a b) ?_
 refine ⟨trivial, trivial, idx_ok0 (by decide), ?_⟩
 rw [ifp_ne]
 split
 ·rename_i h
  refine ⟨⟨by decide, by decide⟩, ?_⟩
  rw [ifp_ne]
  split
  ·rename_i h2
   exact ⟨trivial, trivial, ⟨rfl, trivial⟩, ⟨rfl, trivial⟩, tells_int (by rw [ordV, if_neg (by omega), h2])⟩
  ·exact ⟨trivial, trivial, ⟨rfl, trivial⟩, ⟨rfl, trivial⟩, tells_int (by rw [ordV, if_neg (by omega)])⟩
 ·rename_i h
  exact ⟨trivial, trivial, ⟨rfl, trivial⟩, ⟨rfl, trivial⟩, tells_int (by rw [ordV, if_pos h])⟩
theorem orderCc : CcOk PP 48 uTl := val_ok rfl (fun ⟨a, ⟨b, _⟩⟩ h => uMn a b h)
noncomputable def uWc : Tel (Near × Near × Unit) := .cons 0 (.agg En) (.cons 1 (.agg En) (.nil))
theorem lessFn (a b : Near) (Q : AV → Prop) : (callW PP (runW PP (KL [(48, uTl)] []) 200) 35 (uWc.cells id (a, b, ())) (stE false) (fun x st => frzW st x Q)) = ( ∃ (a_1 : Near), AV.agg [I64 a.1, I64 a.2.1] = AV.agg [I64 a_1.1, I64 a_1.2.1] ∧ ∃ (a : Near), AV.agg [I64 b.1, I64 b.2.1] = AV.agg [I64 a.1, I64 a.2.1] ∧ uGp (a_1, a, ()) ∧ ifp (!leInt 0 (ordV a_1 a)) (Q (AV.bool true)) (Q (AV.bool false))) := by kernel_rfl
def uB8 : Near × Near × Unit → Prop := fun (a, b, ()) => True
noncomputable def uQq : Near × Near × Unit → AV := fun (a, b, ()) => .bool (uAe a b)
noncomputable def uWd : CallC := valC uWc uB8 uQq
theorem lessVal (a : Near) (b : Near) (hp : uB8 (a, b, ())) : Val PP 35 (uWc.cells id (a, b, ())) (uQq (a, b, ())) := by
 refine Val.ofF mixed (KL_ok (cc_cons orderCc (cc_nil))) (freesC rfl _) (lessFn a b) ?_
 refine ⟨a, rfl, b, rfl, trivial, ?_⟩
 rw [ifp_lt]
 split
 ·rename_i h; exact tells_bool (by rw [uAe, decide_eq_true h])
 ·rename_i h; exact tells_bool (by rw [uAe, decide_eq_false h])
theorem uMt : CcOk PP 35 uWd := val_ok rfl (fun ⟨a, ⟨b, _⟩⟩ h => lessVal a b h)
theorem ordV_lt {a b : Near} : ordV a b < 0 ↔ a.1 < b.1 ∨ a.1 = b.1 ∧ a.2.1 < b.2.1 := by
 unfold ordV cmpV; split <;> (repeat' split) <;> omega
theorem uAz {a b : Near} : uAe a b = true ↔ a.1 < b.1 ∨ a.1 = b.1 ∧ a.2.1 < b.2.1 := by rw [uAe, decide_eq_true_iff, ordV_lt]
theorem uGw : ∀ (l : List Near) (k j : Nat) (h : k < l.length), j < 2 → (l.flatMap En.f)[k * 2 + j]? = (En.f l[k])[j]?
 | [], k, j, h, _ => by simp at h
 | a :: l, 0, j, h, hj => by
  rw [List.flatMap_cons, List.getElem?_append_left (by rw [En.len]; show 0 * 2 + j < 2; omega)]; simp
 | a :: l, k + 1, j, h, hj => by
  rw [List.flatMap_cons, List.getElem?_append_right (by rw [En.len]; show 2 ≤ (k + 1) * 2 + j; omega), En.len, show (k + 1) * 2 + j - En.e = k * 2 + j by show (k + 1) * 2 + j - 2 = _; omega]
  exact uGw l k j (by simpa using h) hj
theorem uBf {l : List Near} {k : Nat} (h : k < l.length) : nth (Nat.add (Nat.mul k 2) 0) (l.flatMap En.f) = some (.int .i64 l[k].1) := by rw [nth_eq]; exact uGw l k 0 h (by decide)
theorem uB6 {l : List Near} {k : Nat} (h : k < l.length) : nth (Nat.add (Nat.mul k 2) 1) (l.flatMap En.f) = some (.int .i64 l[k].2.1) := by rw [nth_eq]; exact uGw l k 1 h (by decide)
theorem near_snoc {l : List Near} {x : Near} : l.flatMap En.f ++ [AV.int .i64 x.1, AV.int .i64 x.2.1] = (l ++ [x]).flatMap En.f := by rw [List.flatMap_append]; rfl
theorem uA3 (l : List Near) : (l.flatMap En.f).length = l.length * 2 := En.flen l
open Go.Sort Go.Shelf in
theorem sorts : Sorts PP 47 48 En (fun x => [.int .i64 x.1, .int .i64 x.2.1]) ordV := by
  have swo : SWO (Go.Proofs.ltOf ordV) := by
    have e : ∀ x y, Go.Proofs.ltOf ordV x y = uAe x y := fun _ _ => rfl
    refine ⟨fun x => ?_, fun x y z h1 h2 => ?_, fun x y z h1 h2 => ?_⟩
    · rw [e, ← Bool.not_eq_true, uAz]; omega
    · rw [e, uAz] at *; omega
    · rw [e, ← Bool.not_eq_true, uAz] at *; omega
  have tot : ∀ x y, Go.Proofs.ltOf ordV x y = false → Go.Proofs.ltOf ordV y x = false → x = y := fun x y h1 h2 => by
    have e : ∀ x y, Go.Proofs.ltOf ordV x y = uAe x y := fun _ _ => rfl
    rw [e, ← Bool.not_eq_true, uAz] at h1 h2
    obtain ⟨a, b, _⟩ := x
    obtain ⟨c, d, _⟩ := y
    simp only at h1 h2
    rw [show a = c by omega, show b = d by omega]
  exact
  { to := fun ρ x => .cons (.int _ _) (.cons (.int _ _) .nil)
    from' := fun ρ x l h => by cases h with | cons h1 t => cases t with | cons h2 t => cases t; cases h1; cases h2; rfl
    enter := enters_of Tryd.func47 (by kernel_rfl) rfl
    val := fun x y => uMn x y trivial
    some' := fun blk off cap d w hc hH hb hs => AnyQ.slices_SortFunc_total Tryd.uS2 2 Tryd.isAgg44 Tryd.sizeOf44 _ (fun _ => rfl) (fun x v hv => by simp at hv; rcases hv with rfl | rfl <;> rfl) ordV swo _ #[] blk off cap d w (enters_of Tryd.func48 (by kernel_rfl) rfl) hc hH hb hs tot
    none' := fun p cap fv w => AnyF.slices_SortFunc_none { Tryd.uS2 with } p cap fv w }
def uAi (l : List Near) : List Near := l.mergeSort fun x y => !uAe y x
theorem uDd (l : List Near) : (uAi l).length = l.length := List.length_mergeSort l
noncomputable def uXd : CallC := sortC En 44 48 uAi
theorem uS1 : CcOk PP 47 uXd := sort_ok sorts (fun _ => rfl) 44
open Hp in
theorem uAw : Lt uAe where
 irr a := by rw [← Bool.not_eq_true, uAz]; omega
 tr a b c h1 h2 := by rw [uAz] at *; omega
 tot a b h1 h2 := by
  rw [← Bool.not_eq_true, uAz] at h1 h2
  obtain ⟨a1, a2, _⟩ := a
  obtain ⟨b1, b2, _⟩ := b
  simp only at h1 h2
  rw [show a1 = b1 by omega, show a2 = b2 by omega]
theorem uAd {l : List Near} {k : Nat} (h : k < l.length) : nth (Nat.add (Nat.add 0 (Nat.mul k 2)) 0) (l.flatMap En.f) = some (.int .i64 l[k].1) := by rw [show Nat.add 0 (Nat.mul k 2) = Nat.mul k 2 from Nat.zero_add _]; exact uBf h
theorem uAc {l : List Near} {k : Nat} (h : k < l.length) : nth (Nat.add (Nat.add 0 (Nat.mul k 2)) 1) (l.flatMap En.f) = some (.int .i64 l[k].2.1) := by rw [show Nat.add 0 (Nat.mul k 2) = Nat.mul k 2 from Nat.zero_add _]; exact uB6 h
theorem uIg : ∀ (l : List Near) (k : Nat), (l.flatMap En.f).take (k * 2) = (l.take k).flatMap En.f
 | [], k => by simp
 | a :: l, 0 => by simp
 | a :: l, k + 1 => by
  rw [show (k + 1) * 2 = k * 2 + 1 + 1 by omega, List.take_succ_cons, List.flatMap_cons, List.flatMap_cons, ← uIg l k]
  show List.take (k * 2 + 1 + 1) (_ :: _ :: _) = _ :: _ :: _
  rw [List.take_succ_cons, List.take_succ_cons]; rfl
theorem uIh : ∀ (l : List Near) (k : Nat), (l.flatMap En.f).drop (k * 2) = (l.drop k).flatMap En.f
 | [], k => by simp
 | a :: l, 0 => by simp
 | a :: l, k + 1 => by
  rw [show (k + 1) * 2 = k * 2 + 1 + 1 by omega, List.drop_succ_cons, List.flatMap_cons, ← uIh l k]
  show List.drop (k * 2 + 1 + 1) (_ :: _ :: _) = _
  rw [List.drop_succ_cons, List.drop_succ_cons]; rfl
theorem uAx {l : List Near} {k : Nat} {x : Near} (h : k < l.length) : setAt (Nat.add 0 (Nat.mul k 2)) [AV.int .i64 x.1, AV.int .i64 x.2.1] (l.flatMap En.f) = (l.set k x).flatMap En.f := by
 rw [show Nat.add 0 (Nat.mul k 2) = k * 2 from Nat.zero_add _, setAt, uIg]
 show _ ++ _ ++ List.drop (k * 2 + 2) _ = _
 rw [show k * 2 + 2 = (k + 1) * 2 by omega, uIh, List.set_eq_take_append_cons_drop, if_pos h, List.flatMap_append, List.flatMap_cons, List.append_assoc]; rfl
theorem uBj {l : List Near} {k n : Nat} (h : k < n) (hn : l.length = n) : (Nat.add 0 (Nat.mul k 2)).add 2 ≤ (l.flatMap En.f).length := by
 rw [uA3, show Nat.add 0 (Nat.mul k 2) = k * 2 from Nat.zero_add _]; show k * 2 + 2 ≤ _; omega
theorem half {k : Nat} (h0 : 0 < k) (hk : k ≤ 1000000) : wrapF .i64 (Int.tdiv (wrapF .i64 (Int.sub (k : Int) 1)) 2) = (((k - 1) / 2 : Nat) : Int) := by
 have e : wrapF .i64 (Int.sub (k : Int) 1) = ((k - 1 : Nat) : Int) := by rw [w64 (by show _ ≤ (k : Int) - 1; omega) (by show (k : Int) - 1 < _; omega)]; show (k : Int) - 1 = _; omega
 rw [e, show Int.tdiv ((k - 1 : Nat) : Int) 2 = (((k - 1) / 2 : Nat) : Int) from rfl, w64 (by omega) (by omega)]
def posV (l : List Near) (n : Near) : Nat → Nat
 | 0 => 0
 | k + 1 => if uAe n (l.getD k n) = true then posV l n k else k + 1
def insV (l : List Near) (n : Near) : List Near := l.take (posV l n l.length) ++ n :: l.drop (posV l n l.length)
theorem uGn (l : List Near) (n : Near) : ∀ k, posV l n k ≤ k
 | 0 => Nat.le_refl _
 | k + 1 => by
  rw [posV]; split
  ·exact Nat.le_succ_of_le (uGn l n k)
  ·exact Nat.le_refl _
theorem insV_len (l : List Near) (n : Near) : (insV l n).length = l.length + 1 := by
 have := uGn l n l.length
 rw [insV, List.length_append, List.length_cons, List.length_take, List.length_drop]; omega
abbrev uB0 := ((List Near) × (List Near) × Int × Unit) × (Unit)
noncomputable def uJg : Tel ((List Near) × (List Near) × Int × Unit) := .cons 0 (.lst En) (.cons 1 (.lst En) (.ji 5 (.nil)))
noncomputable def uJk : BTel (Unit) := .nil
noncomputable def uJj : List (LForm uB0) := [⟨_, _, uJg, uJk, fun x y => (x, y)⟩]
noncomputable def uD4 (R0 : uB0 → (Unit) → (Unit) → Prop) (R1 : uB0 → (Bool × Unit) → (Unit) → Prop) : List (Alt uB0) := [⟨.exit 0, Unit, Unit, .nil, .nil, R0⟩, ⟨.ret, Bool × Unit, Unit, .cons 4 (.bool) (.nil), .nil, R1⟩]
theorem sameNForm (a b : List Near) (i : Int) (N : uB0 → Prop) (R0 : uB0 → (Unit) → (Unit) → Prop) (R1 : uB0 → (Bool × Unit) → (Unit) → Prop) : ((runW PP (KL [] []) 100).code none 10 26 (loopBody PP 10 4) (mkT (uJg.av id (a, b, i, ()))) [] (stL false (uJk.obs id ())) (postL 0 uJj (uD4 R0 R1) ((a, b, i, ()), ()) N)) = ( ifp (!leInt (Int.ofNat a.length) i) (idxOk i a.length ∧ ∃ x, Nt En (natOf i) 2 0 a x ∧ ∃ x_1, Nt En (natOf i) 2 1 a x_1 ∧ idxOk i b.length ∧ ∃ x_2, Nt En (natOf i) 2 0 b x_2 ∧ ∃ x_3, Nt En (natOf i) 2 1 b x_3 ∧ ifp (eqInt x x_2) (ifp (eqInt x_1 x_3) (T3 <| ∃ l, Wv En a l ∧ ∃ l_1, Wv En b l_1 ∧ true = true ∧ N ((l, l_1, wrapF .i64 (i.add 1), ()), ())) (T3 <| true = true ∧ R1 ((a, b, i, ()), ()) (false, ()) ())) (T3 <| true = true ∧ R1 ((a, b, i, ()), ()) (false, ()) ())) (True ∧ true = true ∧ R0 ((a, b, i, ()), ()) () ())) := by kernel_rfl
def uFw : uB0 → Prop := fun ((a, b, i, ()), ()) => ∃ k : Nat, i = k ∧ k ≤ a.length ∧ a.length ≤ 1000000 ∧ a.length = b.length ∧ a.take k = b.take k
def uOe : uB0 → Nat := fun ((a, b, i, ()), ()) => a.length - i.toNat
def uJi : uB0 → (Unit) → (Unit) → Prop := fun ((a, b, i, ()), ()) _ _ => a = b
def uJh : uB0 → (Bool × Unit) → (Unit) → Prop := fun ((a, b, i, ()), ()) (r, _) _ => r = false ∧ a ≠ b
noncomputable def uOf : LoopC := loopC 0 uJj (uD4 uJi uJh) uFw
theorem sameNStep : stepsOk PP (KL [] []) 100 10 26 (loopBody PP 10 4) 0 false uJj (uD4 uJi uJh) uFw uOe ⟨_, _, uJg, uJk, fun x y => (x, y)⟩ := by
 intro x y hz
 obtain ⟨a, b, i, _⟩ := x
 obtain _ := y
 refine (sameNForm a b i _ _ _).mpr ?_
 obtain ⟨k, rfl, hk, hl, hab, ht⟩ := hz
 rw [ifp_lt]
 simp only [natOf_nat]
 split
 ·rename_i h
  have hka : k < a.length := by simpa using h
  have hkb : k < b.length := by omega
  have far : a[k] ≠ b[k] → a ≠ b := fun hn e => hn (by subst e; rfl)
  refine ⟨idx_ok hka, _, uBf hka, _, uB6 hka, idx_ok hkb, _, uBf hkb, _, uB6 hkb, ?_⟩
  rw [ifp_eq, ifp_eq]
  split
  ·rename_i h1
   split
   ·rename_i h2
    refine ⟨trivial, trivial, trivial, a, Wk.refl _, b, Wk.refl _, by first | trivial | rfl, ?_⟩
    rw [wsucc (by omega)]
    refine ⟨⟨k + 1, rfl, hka, hl, hab, ?_⟩, by show a.length - (k + 1) < a.length - k; omega, fun _ _ h => h, fun _ _ h => h, trivial⟩
    have e : a[k] = b[k] := Prod.ext h1 (Prod.ext h2 rfl)
    rw [← List.take_append_getElem hka, ← List.take_append_getElem hkb, ht, e]
   ·rename_i h2
    exact ⟨trivial, trivial, trivial, by first | trivial | rfl, rfl, far fun e => h2 (by rw [e])⟩
  ·rename_i h1
   exact ⟨trivial, trivial, trivial, by first | trivial | rfl, rfl, far fun e => h1 (by rw [e])⟩
 ·rename_i h
  refine ⟨trivial, by first | trivial | rfl, ?_⟩
  show a = b
  rw [take_all (by simpa using h), take_all (by rw [← hab]; simpa using h)] at ht; exact ht
theorem sameNOk : LoopOk PP 10 26 (.loop (loopBody PP 10 4)) (uOf) := loop_ok uOe  mixed (KL_ok (cc_nil)) rfl (steps_cons sameNStep (steps_nil))
noncomputable def uOd : Tel ((List Near) × (List Near) × Unit) := .cons 0 (.lst En) (.cons 1 (.lst En) (.nil))
theorem sameNFn (a b : List Near) (Q : AV → Prop) : (callW PP (runW PP (KL [] [(10, [(4, uOf)])]) 200) 10 (uOd.cells id (a, b, ())) (stE false) (fun x st => frzW st x Q)) = ( ifp (!eqInt (Int.ofNat a.length) (Int.ofNat b.length)) (Q (AV.bool false)) (LoopOk PP 10 26 (loopBody PP 10 4).loop uOf ∧ True ∧ True ∧ ∃ l, Wv En a l ∧ ∃ l_1, Wv En b l_1 ∧ true = true ∧ uFw ((l, l_1, 0, ()), ()) ∧ (∀ (c d : Unit), uJi ((l, l_1, 0, ()), ()) c d → Q (AV.bool true)) ∧ (∀ c d, uJh ((l, l_1, 0, ()), ()) c d → Q (AV.bool c.1)) ∧ True)) := by kernel_rfl
def uLq : (List Near) × (List Near) × Unit → Prop := fun (a, b, ()) => a.length ≤ 1000000
noncomputable def uLp : (List Near) × (List Near) × Unit → AV := fun (a, b, ()) => .bool (decide (a = b))
theorem sameNVal (a : List Near) (b : List Near) (hp : uLq (a, b, ())) : Val PP 10 (uOd.cells id (a, b, ())) (uLp (a, b, ())) := by
 refine Val.ofF mixed (KL_ok (cc_nil)) (freesC rfl _) (sameNFn a b) ?_
 have hp' : a.length ≤ 1000000 := hp
 rw [ifp_ne]
 split
 ·rename_i h
  refine ⟨sameNOk, ?_⟩
  repeat first | refine ⟨Nat.le_refl _, ?_⟩ | rw [ifp_pos (roomy_small (by simp only [Nat.add_eq]; omega) (by decide))] | refine ⟨trivial, ?_⟩ | refine ⟨(rfl : true = true), ?_⟩ | refine ⟨idx_ok (by omega), ?_⟩ | refine ⟨idx_ok0 (by omega), ?_⟩ | refine ⟨_, nth_int (by omega), ?_⟩ | refine ⟨_, _, _, _, _, _, nth_lst (by omega), ?_⟩ | refine ⟨_, _, _, _, _, _, nth_lst0 (by omega), ?_⟩ | refine ⟨_, Wk.refl _, ?_⟩ | rw [ifp_pos rfl]
  refine ⟨⟨0, rfl, by omega, hp', by simp at h; omega, rfl⟩, fun _ _ hr => ?_, fun c _ hr => ?_, trivial⟩
  ·exact tells_bool (by rw [decide_eq_true (show a = b from hr)])
  ·obtain ⟨r, _⟩ := c
   obtain ⟨rfl, hr⟩ := hr
   exact tells_bool (by rw [decide_eq_false hr])
 ·rename_i h
  exact tells_bool (by rw [decide_eq_false]; intro e; subst e; exact h rfl)
def Srt (L : List Near) : Prop := L.Pairwise fun a b => uAe b a = false
theorem uHh (L : List Near) (n : Near) : (insV L n).Perm (n :: L) := by
 rw [insV]
 refine List.perm_middle.trans ?_
 rw [List.take_append_drop]
theorem uEf (L : List Near) (n : Near) : ∀ k, k ≤ L.length → (∀ i (hi : i < L.length), posV L n k ≤ i → i < k → uAe n L[i] = true) ∧ (posV L n k = 0 ∨ ∃ h : posV L n k - 1 < L.length, uAe n (L[posV L n k - 1]'h) = false)
 | 0, _ => ⟨fun i _ _ h => by omega, Or.inl rfl⟩
 | k + 1, hk => by
  have hg : L.getD k n = L[k] := by simp [show k < L.length by omega]
  have ih := uEf L n k (by omega)
  rw [posV]
  by_cases h : uAe n (L.getD k n) = true
  ·rw [if_pos h]
   refine ⟨fun i hi h1 h2 => ?_, ih.2⟩
   by_cases e : i = k
   ·subst e; rw [hg] at h; exact h
   ·exact ih.1 i hi h1 (by omega)
  ·rw [if_neg h]
   refine ⟨fun i hi h1 h2 => by omega, Or.inr ⟨by show k + 1 - 1 < L.length; omega, ?_⟩⟩
   rw [hg] at h
   simpa using h
theorem Srt.get {L : List Near} (h : Srt L) {i j : Nat} (hi : i < L.length) (hj : j < L.length) (hij : i ≤ j) : uAe L[j] L[i] = false := by
 rcases Nat.lt_or_ge i j with c | c
 ·exact List.pairwise_iff_getElem.1 h i j hi hj c
 ·obtain rfl : i = j := by omega
  exact uAw.irr _
theorem uC4 {L : List Near} (h : Srt L) (n : Near) : Srt (insV L n) := by
 have hs := uEf L n L.length (Nat.le_refl _)
 have hp := uGn L n L.length
 rw [insV]
 generalize posV L n L.length = p at *
 refine List.pairwise_append.2 ⟨h.sublist (List.take_sublist _ _), List.pairwise_cons.2 ⟨fun x hx => ?_, h.sublist (List.drop_sublist _ _)⟩, fun x hx y hy => ?_⟩
 ·obtain ⟨j, hj, rfl⟩ := List.getElem_of_mem hx
  rw [List.length_drop] at hj
  rw [List.getElem_drop]
  exact uAw.asym (hs.1 (p + j) (by omega) (by omega) (by omega))
 ·obtain ⟨i, hi, rfl⟩ := List.getElem_of_mem hx
  rw [List.length_take] at hi
  rw [List.getElem_take]
  rcases List.mem_cons.1 hy with rfl | hy
  ·rcases hs.2 with h0 | ⟨h1, h2⟩
   ·omega
   ·exact uAw.le_tr (h.get (by omega) h1 (by omega)) h2
  ·obtain ⟨j, hj, rfl⟩ := List.getElem_of_mem hy
   rw [List.length_drop] at hj
   rw [List.getElem_drop]
   exact h.get (by omega) (by omega) (by omega)
theorem uBn {a b : List Near} (ha : Srt a) (hb : Srt b) (h : a.Perm b) : a = b :=
 List.Perm.eq_of_pairwise (le := fun x y => uAe y x = false) (fun x y _ _ h1 h2 => uAw.tot x y h2 h1) ha hb h
theorem uAv (l : List Near) : Srt (uAi l) := by
 have tr : ∀ a b c : Near, (!uAe b a) = true → (!uAe c b) = true → (!uAe c a) = true := fun a b c h1 h2 => by
  simp only [Bool.not_eq_true'] at *
  exact uAw.le_tr h1 h2
 have to : ∀ a b : Near, ((!uAe b a) || (!uAe a b)) = true := fun a b => by
  cases h : uAe b a with
  | false => rfl
  | true => rw [uAw.asym h]; rfl
 exact (List.pairwise_mergeSort tr to l).imp fun h => by simpa using h
theorem uAr (l : List Near) : (uAi l).Perm l := List.mergeSort_perm l _
end Go.Proofs.YteehkdejkemnmaaDoor
namespace Go.Proofs.YteehkdejkemnmaaDoor
open Go.Det Go.RowKit
set_option maxRecDepth 100000
abbrev uDp := (Nat × Nat) × Int × Unit
abbrev upZ := uDp × ((List Near) × Unit)
noncomputable def upSl : Tel uDp := .cons 0 (.slq 0 2) (.ji 2 (.nil))
noncomputable def upBl : BTel ((List Near) × Unit) := .cons (.rows En 44) (.nil)
noncomputable def upFs : List (LForm upZ) := [⟨_, _, upSl, upBl, fun x y => (x, y)⟩]
abbrev uAq := (List Near) × Unit
noncomputable def uNp (R0 : upZ → (Unit) → uAq → Prop) (R1 : upZ → (Unit) → uAq → Prop) : List (Alt upZ) := [⟨.exit 0, Unit, uAq, .nil, .cons (.rows En 44) (.nil), R0⟩, ⟨.ret, Unit, uAq, .nil, .cons (.rows En 44) (.nil), R1⟩]
noncomputable abbrev uDr := KLS [(35, uWd)] [] 44
theorem upForm (h : Nat × Nat) (i : Int) (m : List Near) (N : upZ → Prop) (R0 R1 : upZ → (Unit) → uAq → Prop) : ((runW PP uDr 100).code none 34 37 (loopBody PP 34 1) (mkT (upSl.av id (h, i, ()))) [] (stL false (upBl.obs id (m, ()))) (postL 1 upFs (uNp R0 R1) ((h, i, ()), m, ()) N)) = ( ifp (!leInt i 0) ((2 : Int) ≠ 0 ∧ idxOk (wrapF .i64 ((wrapF .i64 (i.sub 1)).tdiv 2)) h.1 ∧ ∃ x : Int, nth ((Nat.add 0 ((natOf (wrapF .i64 ((wrapF .i64 (i.sub 1)).tdiv 2))).mul 2)).add 0) (m.flatMap En.f) = some (I64 x) ∧ ∃ x_1 : Int, nth ((Nat.add 0 ((natOf (wrapF .i64 ((wrapF .i64 (i.sub 1)).tdiv 2))).mul 2)).add 1) (m.flatMap En.f) = some (I64 x_1) ∧ idxOk i h.1 ∧ ∃ x_2 : Int, nth ((Nat.add 0 ((natOf i).mul 2)).add 0) (m.flatMap En.f) = some (I64 x_2) ∧ ∃ x_3 : Int, nth ((Nat.add 0 ((natOf i).mul 2)).add 1) (m.flatMap En.f) = some (I64 x_3) ∧ ∃ a : Near, Ag2 x x_1 a ∧ ∃ a_1 : Near, Ag2 x_2 x_3 a_1 ∧ uB8 (a, a_1, ()) ∧ ifp (uAe a a_1) (True ∧ True ∧ idxOk i h.1 ∧ ∃ x : Int, nth ((Nat.add 0 ((natOf i).mul 2)).add 0) (m.flatMap En.f) = some (I64 x) ∧ ∃ x_4 : Int, nth ((Nat.add 0 ((natOf i).mul 2)).add 1) (m.flatMap En.f) = some (I64 x_4) ∧ idxOk (wrapF .i64 ((wrapF .i64 (i.sub 1)).tdiv 2)) h.1 ∧ ∃ x_5 : Int, nth ((Nat.add 0 ((natOf (wrapF .i64 ((wrapF .i64 (i.sub 1)).tdiv 2))).mul 2)).add 0) (m.flatMap En.f) = some (I64 x_5) ∧ ∃ x_6 : Int, nth ((Nat.add 0 ((natOf (wrapF .i64 ((wrapF .i64 (i.sub 1)).tdiv 2))).mul 2)).add 1) (m.flatMap En.f) = some (I64 x_6) ∧ idxOk (wrapF .i64 ((wrapF .i64 (i.sub 1)).tdiv 2)) h.1 ∧ (Nat.add 0 ((natOf (wrapF .i64 ((wrapF .i64 (i.sub 1)).tdiv 2))).mul 2)).add 2 ≤ (m.flatMap En.f).length ∧ idxOk i h.1 ∧ (Nat.add 0 ((natOf i).mul 2)).add 2 ≤ (setAt (Nat.add 0 ((natOf (wrapF .i64 ((wrapF .i64 (i.sub 1)).tdiv 2))).mul 2)) [I64 x, I64 x_4] (m.flatMap En.f)).length ∧ True ∧ True ∧ True ∧ ∃ (l : List Near), setAt (Nat.add 0 ((natOf i).mul 2)) [I64 x_5, I64 x_6] (setAt (Nat.add 0 ((natOf (wrapF .i64 ((wrapF .i64 (i.sub 1)).tdiv 2))).mul 2)) [I64 x, I64 x_4] (m.flatMap En.f)) = l.flatMap En.f ∧ true = true ∧ N ((h, wrapF .i64 ((wrapF .i64 (i.sub 1)).tdiv 2), ()), l, ())) (T3 <| ∃ l, Sa En m l ∧ true = true ∧ R1 ((h, i, ()), m, ()) () (l, ()))) (True ∧ ∃ l, Sa En m l ∧ true = true ∧ R0 ((h, i, ()), m, ()) () (l, ()))) := by kernel_rfl
def uNo : upZ → Prop := fun ((h, i, ()), m, ()) => ∃ k : Nat, i = k ∧ h.1 = m.length ∧ k < m.length ∧ m.length ≤ 1000000 ∧ Hp.HeapUp uAe m k
def upMu : upZ → Nat := fun ((h, i, ()), m, ()) => i.toNat
def upR0 : upZ → (Unit) → uAq → Prop := fun ((h, i, ()), m, ()) _ (m2, _) => m2.Perm m ∧ Hp.Heap uAe m2
def upR1 : upZ → (Unit) → uAq → Prop := fun ((h, i, ()), m, ()) _ (m2, _) => m2.Perm m ∧ Hp.Heap uAe m2
noncomputable def upC : LoopC := loopC 1 upFs (uNp upR0 upR1) uNo
theorem upStep : stepsOk PP uDr 100 34 37 (loopBody PP 34 1) 1 false upFs (uNp upR0 upR1) uNo upMu ⟨_, _, upSl, upBl, fun x y => (x, y)⟩ := by
 intro x y hz
 obtain ⟨h, i, _⟩ := x
 obtain ⟨m, _⟩ := y
 refine (upForm h i m _ _ _).mpr ?_
 obtain ⟨k, rfl, hh, hk, hl, hu⟩ := hz
 rw [ifp_lt]
 split
 ·rename_i h0
  have hk0 : 0 < k := by omega
  have hp : (k - 1) / 2 < m.length := by omega
  simp only [half hk0 (by omega), natOf_nat]
  refine ⟨by decide, by rw [hh]; exact idx_ok hp, _, uAd hp, _, uAc hp, by rw [hh]; exact idx_ok hk, _, uAd hk, _, uAc hk, m[(k - 1) / 2], rfl, m[k], rfl, trivial, ?_⟩
  rw [ifp_if]
  split
  ·rename_i hlt
   refine ⟨trivial, trivial, by rw [hh]; exact idx_ok hk, _, uAd hk, _, uAc hk, by rw [hh]; exact idx_ok hp, _, uAd hp, _, uAc hp, by rw [hh]; exact idx_ok hp, uBj hp rfl, by rw [hh]; exact idx_ok hk, ?_, trivial, trivial, trivial, Hp.swap m ((k - 1) / 2) k hp hk, ?_, by first | trivial | rfl, ?_⟩
   ·rw [uAx hp]; exact uBj hk (by simp)
   ·rw [uAx hp, uAx (by simpa using hk)]; rfl
   ·exact ⟨⟨(k - 1) / 2, rfl, by rw [Hp.swap_length]; exact hh, by rw [Hp.swap_length]; exact hp, by rw [Hp.swap_length]; exact hl, hu.step uAw hk hk0 hlt⟩, by show (k - 1) / 2 < k; omega, fun _ _ h => ⟨h.1.trans (Hp.swap_perm _ _ _ _ _), h.2⟩, fun _ _ h => ⟨h.1.trans (Hp.swap_perm _ _ _ _ _), h.2⟩, trivial⟩
  ·rename_i hlt
   exact ⟨trivial, trivial, trivial, m, by first | trivial | rfl, by first | trivial | rfl, List.Perm.refl _, hu.done hk (Or.inr (by simpa using hlt))⟩
 ·exact ⟨trivial, m, by first | trivial | rfl, by first | trivial | rfl, List.Perm.refl _, hu.done hk (Or.inl (by omega))⟩
theorem upOk : LoopOk PP 34 37 (.loop (loopBody PP 34 1)) (upC) := loop_ok upMu  mixed (KLS_ok (cc_cons uMt (cc_nil))) rfl (steps_cons upStep (steps_nil))
abbrev uIs := uDp × uAq
noncomputable def uRq : Tel uDp := .cons 0 (.slq 0 2) (.ji 2 (.nil))
noncomputable def uRt : BTel uAq := .cons (.rows En 44) (.nil)
noncomputable def uRs : List (LForm uIs) := [⟨_, _, uRq, uRt, fun x y => (x, y)⟩]
noncomputable def uHo (R0 : uIs → (Unit) → uAq → Prop) : List (Alt uIs) := [⟨.ret, Unit, uAq, .nil, .cons (.rows En 44) (.nil), R0⟩]
theorem downForm (h : Nat × Nat) (i : Int) (m : List Near) (N : uIs → Prop) (R0 : uIs → (Unit) → uAq → Prop) : ((runW PP uDr 100).code none 36 57 (loopBody PP 36 1) (mkT (uRq.av id (h, i, ()))) [] (stL false (uRt.obs id (m, ()))) (postL 1 uRs (uHo R0) ((h, i, ()), m, ()) N)) = ( ifp (!leInt (Int.ofNat h.1) (wrapF .i64 ((wrapF .i64 ((wrapF .i64 (Int.mul 2 i)).add 1)).add 1))) (idxOk (wrapF .i64 ((wrapF .i64 (Int.mul 2 i)).add 1)) h.1 ∧ ∃ x : Int, nth ((Nat.add 0 ((natOf (wrapF .i64 ((wrapF .i64 (Int.mul 2 i)).add 1))).mul 2)).add 0) (m.flatMap En.f) = some (I64 x) ∧ ∃ x_1 : Int, nth ((Nat.add 0 ((natOf (wrapF .i64 ((wrapF .i64 (Int.mul 2 i)).add 1))).mul 2)).add 1) (m.flatMap En.f) = some (I64 x_1) ∧ idxOk (wrapF .i64 ((wrapF .i64 ((wrapF .i64 (Int.mul 2 i)).add 1)).add 1)) h.1 ∧ ∃ x_2 : Int, nth ((Nat.add 0 ((natOf (wrapF .i64 ((wrapF .i64 ((wrapF .i64 (Int.mul 2 i)).add 1)).add 1))).mul 2)).add 0) (m.flatMap En.f) = some (I64 x_2) ∧ ∃ x_3 : Int, nth ((Nat.add 0 ((natOf (wrapF .i64 ((wrapF .i64 ((wrapF .i64 (Int.mul 2 i)).add 1)).add 1))).mul 2)).add 1) (m.flatMap En.f) = some (I64 x_3) ∧ ∃ a : Near, Ag2 x x_1 a ∧ ∃ a_1 : Near, Ag2 x_2 x_3 a_1 ∧ uB8 (a, a_1, ()) ∧ ifp (uAe a a_1) (T3 <| ifp (leInt (Int.ofNat h.1) (wrapF .i64 ((wrapF .i64 ((wrapF .i64 (Int.mul 2 i)).add 1)).add 1))) (True ∧ True ∧ ∃ l, Sa En m l ∧ true = true ∧ R0 ((h, i, ()), m, ()) () (l, ())) (idxOk i h.1 ∧ ∃ x : Int, nth ((Nat.add 0 ((natOf i).mul 2)).add 0) (m.flatMap En.f) = some (I64 x) ∧ ∃ x_4 : Int, nth ((Nat.add 0 ((natOf i).mul 2)).add 1) (m.flatMap En.f) = some (I64 x_4) ∧ idxOk (wrapF .i64 ((wrapF .i64 ((wrapF .i64 (Int.mul 2 i)).add 1)).add 1)) h.1 ∧ ∃ x_5 : Int, nth ((Nat.add 0 ((natOf (wrapF .i64 ((wrapF .i64 ((wrapF .i64 (Int.mul 2 i)).add 1)).add 1))).mul 2)).add 0) (m.flatMap En.f) = some (I64 x_5) ∧ ∃ x_6 : Int, nth ((Nat.add 0 ((natOf (wrapF .i64 ((wrapF .i64 ((wrapF .i64 (Int.mul 2 i)).add 1)).add 1))).mul 2)).add 1) (m.flatMap En.f) = some (I64 x_6) ∧ ∃ a : Near, Ag2 x x_4 a ∧ ∃ a_2 : Near, Ag2 x_5 x_6 a_2 ∧ uB8 (a, a_2, ()) ∧ ifp (uAe a a_2) (T3 <| idxOk (wrapF .i64 ((wrapF .i64 ((wrapF .i64 (Int.mul 2 i)).add 1)).add 1)) h.1 ∧ ∃ x : Int, nth ((Nat.add 0 ((natOf (wrapF .i64 ((wrapF .i64 ((wrapF .i64 (Int.mul 2 i)).add 1)).add 1))).mul 2)).add 0) (m.flatMap En.f) = some (I64 x) ∧ ∃ x_7 : Int, nth ((Nat.add 0 ((natOf (wrapF .i64 ((wrapF .i64 ((wrapF .i64 (Int.mul 2 i)).add 1)).add 1))).mul 2)).add 1) (m.flatMap En.f) = some (I64 x_7) ∧ idxOk i h.1 ∧ ∃ x_8 : Int, nth ((Nat.add 0 ((natOf i).mul 2)).add 0) (m.flatMap En.f) = some (I64 x_8) ∧ ∃ x_9 : Int, nth ((Nat.add 0 ((natOf i).mul 2)).add 1) (m.flatMap En.f) = some (I64 x_9) ∧ idxOk i h.1 ∧ (Nat.add 0 ((natOf i).mul 2)).add 2 ≤ (m.flatMap En.f).length ∧ idxOk (wrapF .i64 ((wrapF .i64 ((wrapF .i64 (Int.mul 2 i)).add 1)).add 1)) h.1 ∧ (Nat.add 0 ((natOf (wrapF .i64 ((wrapF .i64 ((wrapF .i64 (Int.mul 2 i)).add 1)).add 1))).mul 2)).add 2 ≤ (setAt (Nat.add 0 ((natOf i).mul 2)) [I64 x, I64 x_7] (m.flatMap En.f)).length ∧ True ∧ True ∧ True ∧ ∃ (l : List Near), setAt (Nat.add 0 ((natOf (wrapF .i64 ((wrapF .i64 ((wrapF .i64 (Int.mul 2 i)).add 1)).add 1))).mul 2)) [I64 x_8, I64 x_9] (setAt (Nat.add 0 ((natOf i).mul 2)) [I64 x, I64 x_7] (m.flatMap En.f)) = l.flatMap En.f ∧ true = true ∧ N ((h, wrapF .i64 ((wrapF .i64 ((wrapF .i64 (Int.mul 2 i)).add 1)).add 1), ()), l, ())) (T4 <| ∃ l, Sa En m l ∧ true = true ∧ R0 ((h, i, ()), m, ()) () (l, ())))) (T3 <| ifp (leInt (Int.ofNat h.1) (wrapF .i64 ((wrapF .i64 (Int.mul 2 i)).add 1))) (True ∧ True ∧ ∃ l, Sa En m l ∧ true = true ∧ R0 ((h, i, ()), m, ()) () (l, ())) (idxOk i h.1 ∧ ∃ x : Int, nth ((Nat.add 0 ((natOf i).mul 2)).add 0) (m.flatMap En.f) = some (I64 x) ∧ ∃ x_4 : Int, nth ((Nat.add 0 ((natOf i).mul 2)).add 1) (m.flatMap En.f) = some (I64 x_4) ∧ idxOk (wrapF .i64 ((wrapF .i64 (Int.mul 2 i)).add 1)) h.1 ∧ ∃ x_5 : Int, nth ((Nat.add 0 ((natOf (wrapF .i64 ((wrapF .i64 (Int.mul 2 i)).add 1))).mul 2)).add 0) (m.flatMap En.f) = some (I64 x_5) ∧ ∃ x_6 : Int, nth ((Nat.add 0 ((natOf (wrapF .i64 ((wrapF .i64 (Int.mul 2 i)).add 1))).mul 2)).add 1) (m.flatMap En.f) = some (I64 x_6) ∧ ∃ a : Near, Ag2 x x_4 a ∧ ∃ a_2 : Near, Ag2 x_5 x_6 a_2 ∧ uB8 (a, a_2, ()) ∧ ifp (uAe a a_2) (T3 <| idxOk (wrapF .i64 ((wrapF .i64 (Int.mul 2 i)).add 1)) h.1 ∧ ∃ x : Int, nth ((Nat.add 0 ((natOf (wrapF .i64 ((wrapF .i64 (Int.mul 2 i)).add 1))).mul 2)).add 0) (m.flatMap En.f) = some (I64 x) ∧ ∃ x_7 : Int, nth ((Nat.add 0 ((natOf (wrapF .i64 ((wrapF .i64 (Int.mul 2 i)).add 1))).mul 2)).add 1) (m.flatMap En.f) = some (I64 x_7) ∧ idxOk i h.1 ∧ ∃ x_8 : Int, nth ((Nat.add 0 ((natOf i).mul 2)).add 0) (m.flatMap En.f) = some (I64 x_8) ∧ ∃ x_9 : Int, nth ((Nat.add 0 ((natOf i).mul 2)).add 1) (m.flatMap En.f) = some (I64 x_9) ∧ idxOk i h.1 ∧ (Nat.add 0 ((natOf i).mul 2)).add 2 ≤ (m.flatMap En.f).length ∧ idxOk (wrapF .i64 ((wrapF .i64 (Int.mul 2 i)).add 1)) h.1 ∧ (Nat.add 0 ((natOf (wrapF .i64 ((wrapF .i64 (Int.mul 2 i)).add 1))).mul 2)).add 2 ≤ (setAt (Nat.add 0 ((natOf i).mul 2)) [I64 x, I64 x_7] (m.flatMap En.f)).length ∧ True ∧ True ∧ True ∧ ∃ (l : List Near), setAt (Nat.add 0 ((natOf (wrapF .i64 ((wrapF .i64 (Int.mul 2 i)).add 1))).mul 2)) [I64 x_8, I64 x_9] (setAt (Nat.add 0 ((natOf i).mul 2)) [I64 x, I64 x_7] (m.flatMap En.f)) = l.flatMap En.f ∧ true = true ∧ N ((h, wrapF .i64 ((wrapF .i64 (Int.mul 2 i)).add 1), ()), l, ())) (T4 <| ∃ l, Sa En m l ∧ true = true ∧ R0 ((h, i, ()), m, ()) () (l, ()))))) (True ∧ ifp (leInt (Int.ofNat h.1) (wrapF .i64 ((wrapF .i64 (Int.mul 2 i)).add 1))) (True ∧ True ∧ ∃ l, Sa En m l ∧ true = true ∧ R0 ((h, i, ()), m, ()) () (l, ())) (idxOk i h.1 ∧ ∃ x : Int, nth ((Nat.add 0 ((natOf i).mul 2)).add 0) (m.flatMap En.f) = some (I64 x) ∧ ∃ x_1 : Int, nth ((Nat.add 0 ((natOf i).mul 2)).add 1) (m.flatMap En.f) = some (I64 x_1) ∧ idxOk (wrapF .i64 ((wrapF .i64 (Int.mul 2 i)).add 1)) h.1 ∧ ∃ x_2 : Int, nth ((Nat.add 0 ((natOf (wrapF .i64 ((wrapF .i64 (Int.mul 2 i)).add 1))).mul 2)).add 0) (m.flatMap En.f) = some (I64 x_2) ∧ ∃ x_3 : Int, nth ((Nat.add 0 ((natOf (wrapF .i64 ((wrapF .i64 (Int.mul 2 i)).add 1))).mul 2)).add 1) (m.flatMap En.f) = some (I64 x_3) ∧ ∃ a : Near, Ag2 x x_1 a ∧ ∃ a_1 : Near, Ag2 x_2 x_3 a_1 ∧ uB8 (a, a_1, ()) ∧ ifp (uAe a a_1) (T3 <| idxOk (wrapF .i64 ((wrapF .i64 (Int.mul 2 i)).add 1)) h.1 ∧ ∃ x : Int, nth ((Nat.add 0 ((natOf (wrapF .i64 ((wrapF .i64 (Int.mul 2 i)).add 1))).mul 2)).add 0) (m.flatMap En.f) = some (I64 x) ∧ ∃ x_4 : Int, nth ((Nat.add 0 ((natOf (wrapF .i64 ((wrapF .i64 (Int.mul 2 i)).add 1))).mul 2)).add 1) (m.flatMap En.f) = some (I64 x_4) ∧ idxOk i h.1 ∧ ∃ x_5 : Int, nth ((Nat.add 0 ((natOf i).mul 2)).add 0) (m.flatMap En.f) = some (I64 x_5) ∧ ∃ x_6 : Int, nth ((Nat.add 0 ((natOf i).mul 2)).add 1) (m.flatMap En.f) = some (I64 x_6) ∧ idxOk i h.1 ∧ (Nat.add 0 ((natOf i).mul 2)).add 2 ≤ (m.flatMap En.f).length ∧ idxOk (wrapF .i64 ((wrapF .i64 (Int.mul 2 i)).add 1)) h.1 ∧ (Nat.add 0 ((natOf (wrapF .i64 ((wrapF .i64 (Int.mul 2 i)).add 1))).mul 2)).add 2 ≤ (setAt (Nat.add 0 ((natOf i).mul 2)) [I64 x, I64 x_4] (m.flatMap En.f)).length ∧ True ∧ True ∧ True ∧ ∃ (l : List Near), setAt (Nat.add 0 ((natOf (wrapF .i64 ((wrapF .i64 (Int.mul 2 i)).add 1))).mul 2)) [I64 x_5, I64 x_6] (setAt (Nat.add 0 ((natOf i).mul 2)) [I64 x, I64 x_4] (m.flatMap En.f)) = l.flatMap En.f ∧ true = true ∧ N ((h, wrapF .i64 ((wrapF .i64 (Int.mul 2 i)).add 1), ()), l, ())) (T4 <| ∃ l, Sa En m l ∧ true = true ∧ R0 ((h, i, ()), m, ()) () (l, ()))))) := by kernel_rfl
def uLd : uIs → Prop := fun ((h, i, ()), m, ()) => ∃ k : Nat, i = k ∧ h.1 = m.length ∧ k < m.length ∧ m.length ≤ 1000000 ∧ Hp.HeapDown uAe m k
def uT2 : uIs → Nat := fun ((h, i, ()), m, ()) => m.length - i.toNat
def uRr : uIs → (Unit) → uAq → Prop := fun ((h, i, ()), m, ()) _ (m2, _) => m2.Perm m ∧ Hp.Heap uAe m2
noncomputable def uW0 : LoopC := loopC 1 uRs (uHo uRr) uLd
theorem downStep : stepsOk PP uDr 100 36 57 (loopBody PP 36 1) 1 false uRs (uHo uRr) uLd uT2 ⟨_, _, uRq, uRt, fun x y => (x, y)⟩ := by
 intro x y hz
 obtain ⟨h, i, _⟩ := x
 obtain ⟨m, _⟩ := y
 refine (downForm h i m _ _).mpr ?_
 obtain ⟨k, rfl, hh, hk, hl, hu⟩ := hz
 have eC : wrapF .i64 (Int.add (wrapF .i64 (Int.mul 2 (k : Int))) 1) = ((2 * k + 1 : Nat) : Int) := by
  have e1 : wrapF .i64 (Int.mul 2 (k : Int)) = ((2 * k : Nat) : Int) := by
   rw [show Int.mul 2 (k : Int) = ((2 * k : Nat) : Int) from rfl, w64 (by omega) (by omega)]
  rw [e1, wsucc (by omega)]
 have eD : wrapF .i64 (Int.add ((2 * k + 1 : Nat) : Int) 1) = ((2 * k + 1 + 1 : Nat) : Int) := wsucc (by omega)
 simp only [eC, eD, natOf_nat]
 rw [ifp_lt]
 split
 ·rename_i hD'
  have hD : 2 * k + 1 + 1 < m.length := by simp only [Int.ofNat_eq_natCast] at hD'; omega
  have hC : 2 * k + 1 < m.length := by omega
  refine ⟨by rw [hh]; exact idx_ok hC, _, uAd hC, _, uAc hC, by rw [hh]; exact idx_ok hD, _, uAd hD, _, uAc hD, m[2 * k + 1], rfl, m[2 * k + 1 + 1], rfl, trivial, ?_⟩
  rw [ifp_if]
  split
  ·rename_i hcd
   have hg : ∀ j (hj : j < m.length), 0 < j → (j - 1) / 2 = k → uAe m[2 * k + 1 + 1] m[j] = false := fun j hj h0 he => by
    rcases (show j = 2 * k + 1 ∨ j = 2 * k + 1 + 1 by omega) with rfl | rfl
    ·exact uAw.asym hcd
    ·exact uAw.irr _
   refine ⟨trivial, trivial, trivial, ?_⟩
   rw [ifp_le, if_neg (by simp only [Int.ofNat_eq_natCast]; omega)]
   refine ⟨by rw [hh]; exact idx_ok hk, _, uAd hk, _, uAc hk, by rw [hh]; exact idx_ok hD, _, uAd hD, _, uAc hD, m[k], rfl, m[2 * k + 1 + 1], rfl, trivial, ?_⟩
   rw [ifp_if]
   split
   ·rename_i hlt
    refine ⟨trivial, trivial, trivial, by rw [hh]; exact idx_ok hD, _, uAd hD, _, uAc hD, by rw [hh]; exact idx_ok hk, _, uAd hk, _, uAc hk, by rw [hh]; exact idx_ok hk, uBj hk rfl, by rw [hh]; exact idx_ok hD, ?_, trivial, trivial, trivial, Hp.swap m k (2 * k + 1 + 1) hk hD, ?_, by first | trivial | rfl, ?_⟩
    ·rw [uAx hk]; exact uBj hD (by simp)
    ·rw [uAx hk, uAx (by simpa using hD)]; rfl
    ·exact ⟨⟨2 * k + 1 + 1, rfl, by rw [Hp.swap_length]; exact hh, by rw [Hp.swap_length]; exact hD, by rw [Hp.swap_length]; exact hl, hu.step uAw hD (by omega) (by omega) hk hg hlt⟩, by show (Hp.swap m k (2 * k + 1 + 1) hk hD).length - (2 * k + 1 + 1) < m.length - k; rw [Hp.swap_length]; omega, fun _ _ h => ⟨h.1.trans (Hp.swap_perm _ _ _ _ _), h.2⟩, trivial⟩
   ·rename_i hlt
    exact ⟨trivial, trivial, trivial, trivial, m, by first | trivial | rfl, by first | trivial | rfl, List.Perm.refl _, hu.done fun j hj h0 he => by
     have h1 := hg j hj h0 he
     have h2 : uAe m[k] m[2 * k + 1 + 1] = false := by simpa using hlt
     have h3 := uAw.le_tr h1 h2
     simpa [he] using h3⟩
  ·rename_i hcd
   have hg : ∀ j (hj : j < m.length), 0 < j → (j - 1) / 2 = k → uAe m[2 * k + 1] m[j] = false := fun j hj h0 he => by
    rcases (show j = 2 * k + 1 ∨ j = 2 * k + 1 + 1 by omega) with rfl | rfl
    ·exact uAw.irr _
    ·simpa using hcd
   refine ⟨trivial, trivial, trivial, ?_⟩
   rw [ifp_le, if_neg (by simp only [Int.ofNat_eq_natCast]; omega)]
   refine ⟨by rw [hh]; exact idx_ok hk, _, uAd hk, _, uAc hk, by rw [hh]; exact idx_ok hC, _, uAd hC, _, uAc hC, m[k], rfl, m[2 * k + 1], rfl, trivial, ?_⟩
   rw [ifp_if]
   split
   ·rename_i hlt
    refine ⟨trivial, trivial, trivial, by rw [hh]; exact idx_ok hC, _, uAd hC, _, uAc hC, by rw [hh]; exact idx_ok hk, _, uAd hk, _, uAc hk, by rw [hh]; exact idx_ok hk, uBj hk rfl, by rw [hh]; exact idx_ok hC, ?_, trivial, trivial, trivial, Hp.swap m k (2 * k + 1) hk hC, ?_, by first | trivial | rfl, ?_⟩
    ·rw [uAx hk]; exact uBj hC (by simp)
    ·rw [uAx hk, uAx (by simpa using hC)]; rfl
    ·exact ⟨⟨2 * k + 1, rfl, by rw [Hp.swap_length]; exact hh, by rw [Hp.swap_length]; exact hC, by rw [Hp.swap_length]; exact hl, hu.step uAw hC (by omega) (by omega) hk hg hlt⟩, by show (Hp.swap m k (2 * k + 1) hk hC).length - (2 * k + 1) < m.length - k; rw [Hp.swap_length]; omega, fun _ _ h => ⟨h.1.trans (Hp.swap_perm _ _ _ _ _), h.2⟩, trivial⟩
   ·rename_i hlt
    exact ⟨trivial, trivial, trivial, trivial, m, by first | trivial | rfl, by first | trivial | rfl, List.Perm.refl _, hu.done fun j hj h0 he => by
     have h1 := hg j hj h0 he
     have h2 : uAe m[k] m[2 * k + 1] = false := by simpa using hlt
     have h3 := uAw.le_tr h1 h2
     simpa [he] using h3⟩
 ·rename_i hD'
  refine ⟨trivial, ?_⟩
  by_cases hC : 2 * k + 1 < m.length
  ·have hg : ∀ j (hj : j < m.length), 0 < j → (j - 1) / 2 = k → uAe m[2 * k + 1] m[j] = false := fun j hj h0 he => by
    simp only [Int.ofNat_eq_natCast] at hD'
    obtain rfl : j = 2 * k + 1 := by omega
    exact uAw.irr _
   rw [ifp_le, if_neg (by simp only [Int.ofNat_eq_natCast]; omega)]
   refine ⟨by rw [hh]; exact idx_ok hk, _, uAd hk, _, uAc hk, by rw [hh]; exact idx_ok hC, _, uAd hC, _, uAc hC, m[k], rfl, m[2 * k + 1], rfl, trivial, ?_⟩
   rw [ifp_if]
   split
   ·rename_i hlt
    refine ⟨trivial, trivial, trivial, by rw [hh]; exact idx_ok hC, _, uAd hC, _, uAc hC, by rw [hh]; exact idx_ok hk, _, uAd hk, _, uAc hk, by rw [hh]; exact idx_ok hk, uBj hk rfl, by rw [hh]; exact idx_ok hC, ?_, trivial, trivial, trivial, Hp.swap m k (2 * k + 1) hk hC, ?_, by first | trivial | rfl, ?_⟩
    ·rw [uAx hk]; exact uBj hC (by simp)
    ·rw [uAx hk, uAx (by simpa using hC)]; rfl
    ·exact ⟨⟨2 * k + 1, rfl, by rw [Hp.swap_length]; exact hh, by rw [Hp.swap_length]; exact hC, by rw [Hp.swap_length]; exact hl, hu.step uAw hC (by omega) (by omega) hk hg hlt⟩, by show (Hp.swap m k (2 * k + 1) hk hC).length - (2 * k + 1) < m.length - k; rw [Hp.swap_length]; omega, fun _ _ h => ⟨h.1.trans (Hp.swap_perm _ _ _ _ _), h.2⟩, trivial⟩
   ·rename_i hlt
    exact ⟨trivial, trivial, trivial, trivial, m, by first | trivial | rfl, by first | trivial | rfl, List.Perm.refl _, hu.done fun j hj h0 he => by
     have h1 := hg j hj h0 he
     have h2 : uAe m[k] m[2 * k + 1] = false := by simpa using hlt
     have h3 := uAw.le_tr h1 h2
     simpa [he] using h3⟩
  ·rw [ifp_le, if_pos (by simp only [Int.ofNat_eq_natCast]; omega)]
   exact ⟨trivial, trivial, m, by first | trivial | rfl, by first | trivial | rfl, List.Perm.refl _, hu.done fun j hj h0 he => by omega⟩
theorem downOk : LoopOk PP 36 57 (.loop (loopBody PP 36 1)) (uW0) := loop_ok uT2  mixed (KLS_ok (cc_cons uMt (cc_nil))) rfl (steps_cons downStep (steps_nil))
def uCl (k : Int) (m : List Near) (n : Near) (b : Bool) (m2 : List Near) : Prop :=
 if (m.length : Int) < k then b = true ∧ m2.Perm (m ++ [n]) ∧ Hp.Heap uAe m2
 else if k = 0 ∨ uAe n (m.headD n) = false then b = false ∧ m2 = m
 else b = true ∧ m2.Perm (m.set 0 n) ∧ Hp.Heap uAe m2
theorem uIm {m : List Near} {n : Near} (h : 0 < m.length) : m.headD n = m[0] := by cases m with | nil => simp at h | cons a m => rfl
abbrev uLg := (Unit × Near × Unit) × ((Int × (Nat × Nat) × Unit) × (List Near) × Unit)
noncomputable def uW5 : Tel (Unit × Near × Unit) := .cons 0 (.ptr 0) (.cons 1 (.agg En) (.nil))
noncomputable abbrev uBq := Bk.row (.ji 0 (.cons 1 (.slq 1 2) (.nil)))
noncomputable def uR3 : BTel ((Int × (Nat × Nat) × Unit) × (List Near) × Unit) := .cons uBq (.cons (.rows En 44) (.nil))
abbrev uBr := Bool × Int × Unit
abbrev uAp := (Int × (Nat × Nat) × Unit) × (List Near) × Unit
noncomputable def uLh (R0 : uLg → uBr → uAp → Prop) : List (Res uLg) := [⟨Bool × Int × Unit, uAp, .cons 0 (.bool) (.ji 1 (.nil)), .cons uBq (.cons (.rows En 44) (.nil)), R0⟩]
abbrev uHt (n : Near) (k : Int) (h : Nat × Nat) (m : List Near) : uLg := (((), n, ()), (k, h, ()), m, ())
noncomputable abbrev uDs := KLS [(35, uWd)] [(34, [(1, upC)]), (36, [(1, uW0)])] 44
theorem add1Fn (n : Near) (k : Int) (h : Nat × Nat) (m : List Near) (R0 : uLg → uBr → uAp → Prop) : (callW PP (runW PP uDs 200) 22 (uW5.cells id ((), n, ())) (stL false (uR3.obs id ((k, h, ()), m, ()))) (fun v st => resAny 1 (uHt n k h m) v st (uLh R0))) = ( ifp (!leInt k (Int.ofNat h.1)) (T3 <| ∃ x : Int, some (I64 n.1) = some (I64 x) ∧ ∃ x_1 : Int, some (I64 n.2.1) = some (I64 x_1) ∧ 2 ≤ 2 ∧ ((h.2 < h.1.add 1 ∧ 0 = 0 ∧ h.1.mul 2 = (m.flatMap En.f).length ∧ roomy (h.1.add 1) 16 = true ∧ True ∧ True ∧ LoopOk PP 34 37 (loopBody PP 34 1).loop upC ∧ True ∧ True ∧ ∃ (l : List Near), m.flatMap En.f ++ [I64 x, I64 x_1] = l.flatMap En.f ∧ true = true ∧ uNo (((h.1.add 1, h.1.add 1), wrapF .i64 ((Int.ofNat (h.1.add 1)).sub 1), ()), l, ()) ∧ (∀ c d, upR0 (((h.1.add 1, h.1.add 1), wrapF .i64 ((Int.ofNat (h.1.add 1)).sub 1), ()), l, ()) c d → ∃ l, Sa En d.1 l ∧ true = true ∧ R0 (uHt n k h m) (true, 0, ()) ((k, (h.1.add 1, h.1.add 1), ()), l, ())) ∧ (∀ c d, upR1 (((h.1.add 1, h.1.add 1), wrapF .i64 ((Int.ofNat (h.1.add 1)).sub 1), ()), l, ()) c d → ∃ l, Sa En d.1 l ∧ true = true ∧ R0 (uHt n k h m) (true, 0, ()) ((k, (h.1.add 1, h.1.add 1), ()), l, ())) ∧ True) ∨ h.1.add 1 ≤ h.2 ∧ 1 ≠ 0 ∧ (Nat.add 0 (h.1.mul 2)).add 2 ≤ (m.flatMap En.f).length ∧ True ∧ True ∧ LoopOk PP 34 37 (loopBody PP 34 1).loop upC ∧ True ∧ True ∧ ∃ (l : List Near), setAt (Nat.add 0 (h.1.mul 2)) [I64 x, I64 x_1] (m.flatMap En.f) = l.flatMap En.f ∧ true = true ∧ uNo (((h.1.add 1, h.2), wrapF .i64 ((Int.ofNat (h.1.add 1)).sub 1), ()), l, ()) ∧ (∀ c d, upR0 (((h.1.add 1, h.2), wrapF .i64 ((Int.ofNat (h.1.add 1)).sub 1), ()), l, ()) c d → ∃ l, Sa En d.1 l ∧ true = true ∧ R0 (uHt n k h m) (true, 0, ()) ((k, (h.1.add 1, h.2), ()), l, ())) ∧ (∀ c d, upR1 (((h.1.add 1, h.2), wrapF .i64 ((Int.ofNat (h.1.add 1)).sub 1), ()), l, ()) c d → ∃ l, Sa En d.1 l ∧ true = true ∧ R0 (uHt n k h m) (true, 0, ()) ((k, (h.1.add 1, h.2), ()), l, ())) ∧ True)) (T3 <| ifp (eqInt k 0) (True ∧ ∃ l, Sa En m l ∧ true = true ∧ R0 (uHt n k h m) (false, 0, ()) ((k, h, ()), l, ())) (∃ x : Int, some (I64 n.1) = some (I64 x) ∧ ∃ x_1 : Int, some (I64 n.2.1) = some (I64 x_1) ∧ idxOk 0 h.1 ∧ ∃ x_2 : Int, nth 0 (m.flatMap En.f) = some (I64 x_2) ∧ ∃ x_3 : Int, nth 1 (m.flatMap En.f) = some (I64 x_3) ∧ ∃ a : Near, Ag2 x x_1 a ∧ ∃ a_1 : Near, Ag2 x_2 x_3 a_1 ∧ uB8 (a, a_1, ()) ∧ ifp (uAe a a_1) (T4 <| ∃ x : Int, some (I64 n.1) = some (I64 x) ∧ ∃ x_4 : Int, some (I64 n.2.1) = some (I64 x_4) ∧ idxOk 0 h.1 ∧ 2 ≤ (m.flatMap En.f).length ∧ True ∧ True ∧ LoopOk PP 36 57 (loopBody PP 36 1).loop uW0 ∧ True ∧ True ∧ ∃ (l : List Near), setAt 0 [I64 x, I64 x_4] (m.flatMap En.f) = l.flatMap En.f ∧ true = true ∧ uLd ((h, 0, ()), l, ()) ∧ (∀ c d, uRr ((h, 0, ()), l, ()) c d → ∃ l, Sa En d.1 l ∧ true = true ∧ R0 (uHt n k h m) (true, 0, ()) ((k, h, ()), l, ())) ∧ True) (T4 <| ∃ l, Sa En m l ∧ true = true ∧ R0 (uHt n k h m) (false, 0, ()) ((k, h, ()), l, ()))))) := by kernel_rfl
def uHr : uLg → Prop := fun (((), n, ()), (k, h, ()), m, ()) => h = (m.length, m.length) ∧ Hp.Heap uAe m ∧ m.length ≤ 999999 ∧ 0 ≤ k
def uIy : uLg → uBr → uAp → Prop := fun (((), n, ()), (k, h, ()), m, ()) (b, e, _) ((k2, h2, _), m2, _) => e = 0 ∧ k2 = k ∧ h2 = (m2.length, m2.length) ∧ uCl k m n b m2
noncomputable def uX6 : CallC := callC 1 uW5 uR3 uHr (uLh uIy)
theorem add1Step (z : uLg) (hp : uHr z) : callW PP (runW PP uDs 200) 22 (uW5.cells id z.1) (stL false (uR3.obs id z.2)) (fun v st => resAny 1 z v st (uLh uIy)) := by
 obtain ⟨⟨_, n, _⟩, ⟨⟨k, h, _⟩, m, _⟩⟩ := z
 refine (add1Fn n k h m _).mpr ?_
 obtain ⟨rfl, hH, hl, k0⟩ := hp
 rw [ifp_lt]
 split
 ·rename_i hk
  have hk' : (m.length : Int) < k := hk
  have ew : wrapF .i64 (Int.sub (Int.ofNat (m.length.add 1)) 1) = (m.length : Int) := by
   rw [w64 (by show _ ≤ ((m.length + 1 : Nat) : Int) - 1; omega) (by show ((m.length + 1 : Nat) : Int) - 1 < _; omega)]; show ((m.length + 1 : Nat) : Int) - 1 = _; omega
  have fin : ∀ m2 : List Near, m2.Perm (m ++ [n]) ∧ Hp.Heap uAe m2 → ∃ l : List Near, m2.flatMap En.f = l.flatMap En.f ∧ true = true ∧ uIy (((), n, ()), (k, (m.length, m.length), ()), m, ()) (true, 0, ()) ((k, (m.length.add 1, m.length.add 1), ()), l, ()) := fun m2 h2 => by
   have hl2 : m2.length = m.length + 1 := by rw [h2.1.length_eq]; simp
   exact ⟨m2, rfl, rfl, rfl, rfl, by show (m.length + 1, m.length + 1) = _; rw [hl2], by rw [uCl, if_pos hk']; exact ⟨rfl, h2⟩⟩
  refine ⟨trivial, trivial, trivial, _, rfl, _, rfl, by decide, Or.inl ⟨Nat.lt_succ_self _, rfl, (uA3 m).symm, roomy_small (by show m.length + 1 ≤ _; omega) (by decide), trivial, trivial, upOk, trivial, trivial, m ++ [n], near_snoc, rfl, ⟨m.length, ew, by simp, by simp, by simp; omega, hH.up n⟩, fun _ d hr => fin d.1 hr, fun _ d hr => fin d.1 hr, trivial⟩⟩
 ·rename_i hk
  have hk' : ¬ (m.length : Int) < k := hk
  refine ⟨trivial, trivial, trivial, ?_⟩
  rw [ifp_eq]
  split
  ·rename_i h0
   exact ⟨trivial, m, rfl, rfl, rfl, rfl, rfl, by rw [uCl, if_neg hk', if_pos (Or.inl h0)]; exact ⟨rfl, rfl⟩⟩
  ·rename_i h0
   have hm1 : 0 < m.length := by omega
   refine ⟨_, rfl, _, rfl, idx_ok0 hm1, _, uBf hm1, _, uB6 hm1, n, rfl, m[0], rfl, trivial, ?_⟩
   rw [ifp_if]
   split
   ·rename_i hlt
    refine ⟨trivial, trivial, trivial, trivial, _, rfl, _, rfl, idx_ok0 hm1, by rw [uA3]; omega, trivial, trivial, downOk, trivial, trivial, m.set 0 n, uAx hm1, rfl, ⟨0, rfl, by simp, by simpa using hm1, by simp; omega, hH.down n⟩, fun _ d hr => ?_, trivial⟩
    obtain ⟨m2, _⟩ := d
    have h2 : m2.Perm (m.set 0 n) ∧ Hp.Heap uAe m2 := hr
    have hl2 : m2.length = m.length := by rw [h2.1.length_eq]; simp
    exact ⟨m2, rfl, rfl, rfl, rfl, by show (m.length, m.length) = _; rw [hl2], by rw [uCl, if_neg hk', if_neg (by rw [uIm hm1, hlt]; simp [h0])]; exact ⟨rfl, h2⟩⟩
   ·rename_i hlt
    exact ⟨trivial, trivial, trivial, trivial, m, rfl, rfl, rfl, rfl, rfl, by rw [uCl, if_neg hk', if_pos (Or.inr (by rw [uIm hm1]; simpa using hlt))]; exact ⟨rfl, rfl⟩⟩
theorem add1Cc : CcOk PP 22 uX6 := call_ok mixed (KLS_ok (cc_cons uMt (cc_nil))) rfl add1Step
abbrev uHs := (Unit × Near × Unit) × ((Int × Unit × Unit) × Unit)
noncomputable def uW6 : Tel (Unit × Near × Unit) := .cons 0 (.ptr 0) (.cons 1 (.agg En) (.nil))
noncomputable abbrev uBp := Bk.row (.ji 0 (.cons 1 (.nilS) (.nil)))
noncomputable def uR4 : BTel ((Int × Unit × Unit) × Unit) := .cons uBp (.nil)
abbrev uAo := (Int × Unit × Unit) × Unit
noncomputable def uLi (R0 : uHs → uBr → uAo → Prop) (R1 : uHs → uBr → uAp → Prop) : List (Res uHs) := [⟨Bool × Int × Unit, uAo, .cons 0 (.bool) (.ji 1 (.nil)), .cons uBp (.nil), R0⟩, ⟨Bool × Int × Unit, uAp, .cons 0 (.bool) (.ji 1 (.nil)), .cons uBq (.cons (.rows En 44) (.nil)), R1⟩]
theorem add0Fn (n : Near) (k : Int) (R0 : uHs → uBr → uAo → Prop) (R1 : uHs → uBr → uAp → Prop) : (callW PP (runW PP uDs 200) 22 (uW6.cells id ((), n, ())) (stL false (uR4.obs id ((k, (), ()), ()))) (fun v st => resAny 1 (((), n, ()), (k, (), ()), ()) v st (uLi R0 R1))) = ( ifp (!leInt k 0) (T3 <| ∃ x : Int, some (I64 n.1) = some (I64 x) ∧ ∃ x_1 : Int, some (I64 n.2.1) = some (I64 x_1) ∧ 2 ≤ 2 ∧ 1 ≠ 0 ∧ true = true ∧ True ∧ True ∧ LoopOk PP 34 37 (loopBody PP 34 1).loop upC ∧ True ∧ True ∧ ∃ (l : List Near), [I64 x, I64 x_1] = l.flatMap En.f ∧ true = true ∧ uNo (((1, 1), 0, ()), l, ()) ∧ (∀ c d, upR0 (((1, 1), 0, ()), l, ()) c d → False ∨ ∃ l, Sa En d.1 l ∧ true = true ∧ R1 (((), n, ()), (k, (), ()), ()) (true, 0, ()) ((k, (1, 1), ()), l, ())) ∧ (∀ c d, upR1 (((1, 1), 0, ()), l, ()) c d → False ∨ ∃ l, Sa En d.1 l ∧ true = true ∧ R1 (((), n, ()), (k, (), ()), ()) (true, 0, ()) ((k, (1, 1), ()), l, ())) ∧ True) (T3 <| ifp (eqInt k 0) (True ∧ (true = true ∧ R0 (((), n, ()), (k, (), ()), ()) (false, 0, ()) ((k, (), ()), ()) ∨ False)) (∃ x : Int, some (I64 n.1) = some (I64 x) ∧ ∃ x : Int, some (I64 n.2.1) = some (I64 x) ∧ False))) := by kernel_rfl
def uCb : uHs → Prop := fun (((), n, ()), (k, (), ()), ()) => 0 ≤ k
def uDg : uHs → uBr → uAo → Prop := fun (((), n, ()), (k, (), ()), ()) (b, e, _) ((k2, _), _) => b = false ∧ e = 0 ∧ k2 = k ∧ k = 0
def uCx : uHs → uBr → uAp → Prop := fun (((), n, ()), (k, (), ()), ()) (b, e, _) ((k2, h2, _), m2, _) => b = true ∧ e = 0 ∧ k2 = k ∧ 0 < k ∧ h2 = (1, 1) ∧ m2 = [n]
noncomputable def uX7 : CallC := callC 1 uW6 uR4 uCb (uLi uDg uCx)
theorem add0Step (z : uHs) (hp : uCb z) : callW PP (runW PP uDs 200) 22 (uW6.cells id z.1) (stL false (uR4.obs id z.2)) (fun v st => resAny 1 z v st (uLi uDg uCx)) := by
 obtain ⟨⟨_, n, _⟩, ⟨⟨k, _, _⟩, _⟩⟩ := z
 refine (add0Fn n k _ _).mpr ?_
 have hp' : 0 ≤ k := hp
 rw [ifp_lt]
 split
 ·rename_i hk
  have fin : ∀ m2 : List Near, m2.Perm [n] ∧ Hp.Heap uAe m2 → False ∨ ∃ l : List Near, m2.flatMap En.f = l.flatMap En.f ∧ true = true ∧ uCx (((), n, ()), (k, (), ()), ()) (true, 0, ()) ((k, (1, 1), ()), l, ()) := fun m2 h2 => by
   obtain rfl := List.perm_singleton.1 h2.1
   exact Or.inr ⟨[n], rfl, rfl, rfl, rfl, rfl, hk, rfl, rfl⟩
  refine ⟨trivial, trivial, trivial, _, rfl, _, rfl, by decide, by decide, rfl, trivial, trivial, upOk, trivial, trivial, [n], rfl, rfl, ⟨0, rfl, rfl, by simp, by simp, ?_⟩, fun _ d hr => fin d.1 hr, fun _ d hr => fin d.1 hr, trivial⟩
  exact Hp.Heap.up (l := []) (fun j hj => by simp at hj) n
 ·rename_i hk
  refine ⟨trivial, trivial, trivial, ?_⟩
  rw [ifp_eq, if_pos (by omega)]
  exact ⟨trivial, Or.inl ⟨rfl, rfl, rfl, rfl, by omega⟩⟩
theorem add0Cc : CcOk PP 22 uX7 := call_ok mixed (KLS_ok (cc_cons uMt (cc_nil))) rfl add0Step
noncomputable def addK : CallC := orC uX6 uX7
theorem addCc : CcOk PP 22 addK := orC_ok add1Cc add0Cc
abbrev uBi := Unit × Unit
abbrev uFe := uBi × uAp
noncomputable def uQo : Tel uBi := .cons 0 (.ptr 0) (.nil)
noncomputable def uKz : BTel uAp := .cons uBq (.cons (.rows En 44) (.nil))
noncomputable def uG3 (R0 : uFe → uAq → uAp → Prop) : List (Res uFe) := [⟨(List Near) × Unit, uAp, .cons 0 (.lst En) (.nil), .cons uBq (.cons (.rows En 44) (.nil)), R0⟩]
noncomputable abbrev uDq := KLS [(47, uXd)] [] 44
theorem list1Fn (k : Int) (h : Nat × Nat) (m : List Near) (R0 : uFe → uAq → uAp → Prop) : (callW PP (runW PP uDq 200) 26 (uQo.cells id ((), ())) (stL false (uKz.obs id ((k, h, ()), m, ()))) (fun v st => Go.Det.frz1 v st fun v st => resAny 2 (((), ()), (k, h, ()), m, ()) v st (uG3 R0))) = ( (0 : Int) ≤ Int.ofNat h.1 ∧ Int.ofNat h.1 ≤ Int.ofNat h.1 ∧ Int.ofNat h.1 ≤ 16777216 ∧ roomy (natOf (Int.ofNat h.1)) 16 = true ∧ Nat.add 0 ((minN h.1 (natOf (Int.ofNat h.1))).mul 2) ≤ (m.flatMap En.f).length ∧ ifp (allScalar (List.take ((minN h.1 (natOf (Int.ofNat h.1))).mul 2) (List.drop 0 (m.flatMap En.f)))) (Nat.add 0 (List.take ((minN h.1 (natOf (Int.ofNat h.1))).mul 2) (List.drop 0 (m.flatMap En.f))).length ≤ (repl (natOf (Int.ofNat h.1)) [I64 0, I64 0]).length ∧ ((∃ (l : List Near), setAt 0 (List.take ((minN h.1 (natOf (Int.ofNat h.1))).mul 2) (List.drop 0 (m.flatMap En.f))) (repl (natOf (Int.ofNat h.1)) [I64 0, I64 0]) = l.flatMap En.f ∧ true = true ∧ ((natOf (Int.ofNat h.1), natOf (Int.ofNat h.1)).1 = l.length ∧ l.length < 4611686018427387904) ∧ (∀ (c : Unit) (d : List Near × Unit), d.1 = uAi l → Nat.add 0 ((natOf (Int.ofNat h.1)).mul 2) ≤ (List.flatMap En.f d.1).length ∧ ∃ (l : List Near), Wk (AV.vs (List.take ((natOf (Int.ofNat h.1)).mul 2) (List.drop 0 (List.flatMap En.f d.1))) (natOf (Int.ofNat h.1)) (natOf (Int.ofNat h.1)) true none 2) (lst En l) ∧ ∃ l_1, Sa En m l_1 ∧ true = true ∧ R0 (((), ()), (k, h, ()), m, ()) (l, ()) ((k, h, ()), l_1, ())) ∧ True) ∨ False)) False) := by kernel_rfl
def uDu : uFe → Prop := fun (((), ()), (k, h, ()), m, ()) => h = (m.length, m.length) ∧ m.length ≤ 1000000
def uG4 : uFe → uAq → uAp → Prop := fun (((), ()), (k, h, ()), m, ()) (o, _) ((k2, h2, _), m2, _) => o = uAi m ∧ k2 = k ∧ h2 = h ∧ m2 = m
noncomputable def uTt : CallC := callC 2 uQo uKz uDu (uG3 uG4)
theorem list1Step (z : uFe) (hp : uDu z) : callW PP (runW PP uDq 200) 26 (uQo.cells id z.1) (stL false (uKz.obs id z.2)) (fun v st => Go.Det.frz1 v st fun v st => resAny 2 z v st (uG3 uG4)) := by
 obtain ⟨⟨_, _⟩, ⟨⟨k, h, _⟩, m, _⟩⟩ := z
 refine (list1Fn k h m _).mpr ?_
 obtain ⟨rfl, hl⟩ := hp
 have e1 : minN (m.length, m.length).fst (natOf (Int.ofNat (m.length, m.length).fst)) = m.length := by show minN m.length m.length = _; rw [minN, show Nat.ble m.length m.length = true from ble_t (Nat.le_refl _), ifb_true]
 have e2 : List.take (m.length.mul 2) (List.drop 0 (m.flatMap En.f)) = m.flatMap En.f := by rw [List.drop_zero, List.take_of_length_le (by rw [uA3]; exact Nat.le_refl _)]
 have e3 : (repl (natOf (Int.ofNat (m.length, m.length).fst)) [AV.int .i64 0, AV.int .i64 0]) = (List.replicate m.length ((0, 0, ()) : Near)).flatMap En.f := repl_enc (E := En) (x := (0, 0, ())) _
 have hs := uDd m
 refine ⟨by show (0 : Int) ≤ (m.length : Int); omega, Int.le_refl _, by show (m.length : Int) ≤ _; omega, roomy_small (by show m.length ≤ _; omega) (by decide), ?_⟩
 rw [e1, e2, e3, ifp_pos (Enc.fscal En m)]
 refine ⟨by rw [uA3]; show 0 + m.length * 2 ≤ _; omega, by rw [uA3, uA3, List.length_replicate]; show 0 + _ ≤ _; omega, Or.inl ⟨m, ?_, rfl, ⟨rfl, by omega⟩, fun _ d hd => ?_, trivial⟩⟩
 ·rw [setAt, List.take_zero, List.drop_of_length_le (by rw [uA3, uA3, List.length_replicate]; omega)]; simp
 ·obtain ⟨s, _⟩ := d
  obtain rfl : s = uAi m := hd
  refine ⟨by rw [uA3, hs]; show 0 + m.length * 2 ≤ _; omega, uAi m, wk_vs ⟨?_, hs.symm, rfl⟩, m, rfl, rfl, rfl, rfl, rfl, rfl⟩
  show List.take (m.length * 2) _ = _
  rw [List.drop_zero, List.take_of_length_le (by rw [uA3, hs]; exact Nat.le_refl _)]
theorem list1Cc : CcOk PP 26 uTt := call_okF mixed (KLS_ok (cc_cons uS1 (cc_nil))) rfl list1Step
abbrev uFf := uBi × uAo
noncomputable def uQp : Tel uBi := .cons 0 (.ptr 0) (.nil)
noncomputable def uK0 : BTel uAo := .cons uBp (.nil)
noncomputable def uG5 (R0 : uFf → uAq → uAo → Prop) : List (Res uFf) := [⟨(List Near) × Unit, uAo, .cons 0 (.lst En) (.nil), .cons uBp (.nil), R0⟩]
theorem list0Fn (k : Int) (R0 : uFf → uAq → uAo → Prop) : (callW PP (runW PP uDq 200) 26 (uQp.cells id ((), ())) (stL false (uK0.obs id ((k, (), ()), ()))) (fun v st => Go.Det.frz1 v st fun v st => resAny 1 (((), ()), (k, (), ()), ()) v st (uG5 R0))) = ( (0 : Int) ≤ 0 ∧ (0 : Int) ≤ 0 ∧ (0 : Int) ≤ 16777216 ∧ true = true ∧ 0 ≤ 0 ∧ ((∃ (l : List Near), setAt 0 [] [] = l.flatMap En.f ∧ true = true ∧ (0 = l.length ∧ l.length < 4611686018427387904) ∧ (∀ (c : Unit) (d : List Near × Unit), d.1 = uAi l → 0 ≤ (List.flatMap En.f d.1).length ∧ ∃ (l : List Near), Wk (AV.vs [] 0 0 true none 2) (lst En l) ∧ true = true ∧ R0 (((), ()), (k, (), ()), ()) (l, ()) ((k, (), ()), ())) ∧ True) ∨ False)) := by kernel_rfl
def uBt : uFf → Prop := fun (((), ()), (k, (), ()), ()) => True
def uCj : uFf → uAq → uAo → Prop := fun (((), ()), (k, (), ()), ()) (o, _) ((k2, _), _) => o = [] ∧ k2 = k
noncomputable def uTu : CallC := callC 1 uQp uK0 uBt (uG5 uCj)
theorem list0Step (z : uFf) (hp : uBt z) : callW PP (runW PP uDq 200) 26 (uQp.cells id z.1) (stL false (uK0.obs id z.2)) (fun v st => Go.Det.frz1 v st fun v st => resAny 1 z v st (uG5 uCj)) := by
 obtain ⟨⟨_, _⟩, ⟨⟨k, _, _⟩, _⟩⟩ := z
 refine (list0Fn k _).mpr ?_
 exact ⟨by decide, by decide, by decide, rfl, by decide, Or.inl ⟨[], rfl, rfl, ⟨rfl, by simp⟩, fun _ d hd => ⟨Nat.zero_le _, [], wk_vs ⟨rfl, rfl, rfl⟩, rfl, rfl, rfl⟩, trivial⟩⟩
theorem list0Cc : CcOk PP 26 uTu := call_okF mixed (KLS_ok (cc_cons uS1 (cc_nil))) rfl list0Step
noncomputable def uLl : CallC := orC uTt uTu
theorem uI1 : CcOk PP 26 uLl := orC_ok list1Cc list0Cc
def uCw (K : Int) (L : List Near) (n : Near) : Bool := !(decide ((L.length : Int) = K) && (decide (K = 0) || !uAe n (L.getLastD n)))
def uAn (K : Int) (L : List Near) (n : Near) : List Near := if uCw K L n = true then (insV L n).take K.toNat else L
def uBm (k : Int) (m : List Near) : Near × Bool := if (m.length : Int) = k ∧ k ≠ 0 then (m.headD (0, 0, ()), true) else ((0, 0, ()), false)
def uAf (K : Int) (L : List Near) : Near × Bool := if K = 0 ∨ (L.length : Int) < K then ((0, 0, ()), false) else (L.getLastD (0, 0, ()), true)
theorem uCe {L : List Near} {p : Nat} (n : Near) (h : L.length = p + 1) : L.getLastD n = L[p] := by
 rw [List.getLastD_eq_getLast?, List.getLast?_eq_getElem?]; simp [h]
theorem uQ0 {K : Int} {L : List Near} {n : Near} (h : ¬ (L.length : Int) = K) : uCw K L n = true := by simp [uCw, h]
theorem uQz {K : Int} {L : List Near} {n : Near} (h : (L.length : Int) = K) (h2 : K = 0 ∨ uAe n (L.getLastD n) = false) : uCw K L n = false := by
 rcases h2 with h2 | h2
 ·simp [uCw, h, h2]
 ·rw [uCw, h2]; simp [h]
theorem keep_yes {K : Int} {L : List Near} {n : Near} (h : K ≠ 0) (h2 : uAe n (L.getLastD n) = true) : uCw K L n = true := by rw [uCw, h2]; simp [h]
abbrev uCy := uBi × uAp
noncomputable def uIz : Tel uBi := .cons 0 (.ptr 0) (.nil)
noncomputable def uFn : BTel uAp := .cons uBq (.cons (.rows En 44) (.nil))
abbrev uC0 := Near × Bool × Unit
noncomputable def uD1 (R0 : uCy → uC0 → uAp → Prop) : List (Res uCy) := [⟨Near × Bool × Unit, uAp, .cons 0 (.agg En) (.cons 1 (.bool) (.nil)), .cons uBq (.cons (.rows En 44) (.nil)), R0⟩]
theorem worst1Fn (k : Int) (h : Nat × Nat) (m : List Near) (R0 : uCy → uC0 → uAp → Prop) : (callW PP (runW PP (KLS [] [] 44) 200) 21 (uIz.cells id ((), ())) (stL false (uFn.obs id ((k, h, ()), m, ()))) (fun v st => resAny 2 (((), ()), (k, h, ()), m, ()) v st (uD1 R0))) = ( ifp (eqInt (Int.ofNat h.1) k) (T3 <| ifp (eqInt k 0) (2 ≤ 2 ∧ ∃ a : Near, Ag2 0 0 a ∧ ∃ l, Sa En m l ∧ true = true ∧ R0 (((), ()), (k, h, ()), m, ()) (a, false, ()) ((k, h, ()), l, ())) (idxOk 0 h.1 ∧ ∃ x : Int, nth 0 (m.flatMap En.f) = some (I64 x) ∧ ∃ x_1 : Int, nth 1 (m.flatMap En.f) = some (I64 x_1) ∧ 2 ≤ 2 ∧ ∃ a : Near, Ag2 x x_1 a ∧ ∃ l, Sa En m l ∧ true = true ∧ R0 (((), ()), (k, h, ()), m, ()) (a, true, ()) ((k, h, ()), l, ()))) (T3 <| 2 ≤ 2 ∧ ∃ a : Near, Ag2 0 0 a ∧ ∃ l, Sa En m l ∧ true = true ∧ R0 (((), ()), (k, h, ()), m, ()) (a, false, ()) ((k, h, ()), l, ()))) := by kernel_rfl
def uD2 : uCy → Prop := fun (((), ()), (k, h, ()), m, ()) => h = (m.length, m.length)
def uFm : uCy → uC0 → uAp → Prop := fun (((), ()), (k, h, ()), m, ()) (x, b, _) ((k2, h2, _), m2, _) => (x, b) = uBm k m ∧ k2 = k ∧ h2 = h ∧ m2 = m
noncomputable def uNk : CallC := callC 2 uIz uFn uD2 (uD1 uFm)
theorem worst1Step (z : uCy) (hp : uD2 z) : callW PP (runW PP (KLS [] [] 44) 200) 21 (uIz.cells id z.1) (stL false (uFn.obs id z.2)) (fun v st => resAny 2 z v st (uD1 uFm)) := by
 obtain ⟨⟨_, _⟩, ⟨⟨k, h, _⟩, m, _⟩⟩ := z
 refine (worst1Fn k h m _).mpr ?_
 obtain rfl : h = (m.length, m.length) := hp
 rw [ifp_eq]
 split
 ·rename_i h
  refine ⟨trivial, trivial, trivial, ?_⟩
  rw [ifp_eq]
  split
  ·rename_i h0
   exact ⟨by decide, (0, 0, ()), rfl, m, rfl, by first | trivial | rfl, by rw [uBm, if_neg (fun c => c.2 h0)], rfl, rfl, rfl⟩
  ·rename_i h0
   have hm : 0 < m.length := by have h' : ((m.length : Nat) : Int) = k := h; omega
   exact ⟨idx_ok0 hm, _, uBf hm, _, uB6 hm, by decide, m[0], rfl, m, rfl, by first | trivial | rfl, by rw [uBm, if_pos ⟨h, h0⟩, uIm hm], rfl, rfl, rfl⟩
 ·rename_i h
  exact ⟨trivial, trivial, trivial, by decide, (0, 0, ()), rfl, m, rfl, by first | trivial | rfl, by rw [uBm, if_neg (fun c => h c.1)], rfl, rfl, rfl⟩
theorem worst1Cc : CcOk PP 21 uNk := call_ok mixed (KLS_ok (cc_nil)) rfl worst1Step
abbrev uCz := uBi × uAo
noncomputable def uI0 : Tel uBi := .cons 0 (.ptr 0) (.nil)
noncomputable def uFo : BTel uAo := .cons uBp (.nil)
noncomputable def uD3 (R0 : uCz → uC0 → uAo → Prop) : List (Res uCz) := [⟨Near × Bool × Unit, uAo, .cons 0 (.agg En) (.cons 1 (.bool) (.nil)), .cons uBp (.nil), R0⟩]
theorem worst0Fn (k : Int) (R0 : uCz → uC0 → uAo → Prop) : (callW PP (runW PP (KLS [] [] 44) 200) 21 (uI0.cells id ((), ())) (stL false (uFo.obs id ((k, (), ()), ()))) (fun v st => resAny 1 (((), ()), (k, (), ()), ()) v st (uD3 R0))) = ( ifp (eqInt 0 k) (T3 <| ifp (eqInt k 0) (2 ≤ 2 ∧ ∃ a : Near, Ag2 0 0 a ∧ true = true ∧ R0 (((), ()), (k, (), ()), ()) (a, false, ()) ((k, (), ()), ())) False) (T3 <| 2 ≤ 2 ∧ ∃ a : Near, Ag2 0 0 a ∧ true = true ∧ R0 (((), ()), (k, (), ()), ()) (a, false, ()) ((k, (), ()), ()))) := by kernel_rfl
def uCm : uCz → Prop := fun (((), ()), (k, (), ()), ()) => True
def uDk : uCz → uC0 → uAo → Prop := fun (((), ()), (k, (), ()), ()) (x, b, _) ((k2, _), _) => (x, b) = uBm k [] ∧ k2 = k
noncomputable def uNl : CallC := callC 1 uI0 uFo uCm (uD3 uDk)
theorem worst0Step (z : uCz) (hp : uCm z) : callW PP (runW PP (KLS [] [] 44) 200) 21 (uI0.cells id z.1) (stL false (uFo.obs id z.2)) (fun v st => resAny 1 z v st (uD3 uDk)) := by
 obtain ⟨⟨_, _⟩, ⟨⟨k, _, _⟩, _⟩⟩ := z
 refine (worst0Fn k _).mpr ?_
 rw [ifp_eq]
 split
 ·rename_i h
  refine ⟨trivial, trivial, trivial, ?_⟩
  rw [ifp_eq, if_pos h.symm]
  exact ⟨by decide, (0, 0, ()), rfl, by first | trivial | rfl, by rw [uBm, if_neg (fun c => c.2 h.symm)], rfl⟩
 ·rename_i h
  exact ⟨trivial, trivial, trivial, by decide, (0, 0, ()), rfl, by first | trivial | rfl, by rw [uBm, if_neg (fun c => h c.1)], rfl⟩
theorem worst0Cc : CcOk PP 21 uNl := call_ok mixed (KLS_ok (cc_nil)) rfl worst0Step
noncomputable def uSy : CallC := orC uNk uNl
theorem worstCc : CcOk PP 21 uSy := orC_ok worst1Cc worst0Cc
structure TopOk (k : Int) (m L : List Near) : Prop where
 p : m.Perm L
 s : Srt L
 h : Hp.Heap uAe m
 l : (L.length : Int) ≤ k
theorem TopOk.len {k : Int} {m L : List Near} (h : TopOk k m L) : m.length = L.length := h.p.length_eq
theorem TopOk.last {k : Int} {m L : List Near} (h : TopOk k m L) (h0 : 0 < m.length) (n : Near) : L.getLastD n = m[0] := by
 obtain ⟨p, hp⟩ : ∃ p, L.length = p + 1 := ⟨L.length - 1, by have := h.len; omega⟩
 rw [uCe n hp]
 have hpl : p < L.length := by omega
 have h1 : m[0] ∈ L := h.p.mem_iff.1 (List.getElem_mem h0)
 have h2 : L[p] ∈ m := h.p.mem_iff.2 (List.getElem_mem hpl)
 obtain ⟨i, hi, e1⟩ := List.getElem_of_mem h1
 obtain ⟨j, hj, e2⟩ := List.getElem_of_mem h2
 refine uAw.tot _ _ ?_ ?_
 ·rw [← e1]; exact h.s.get hi hpl (by omega)
 ·rw [← e2]; exact Hp.Heap.root uAw h.h j hj
theorem TopOk.uT9 {k : Int} {m L : List Near} (h : TopOk k m L) : uBm k m = uAf k L := by
 have hl := h.len
 have hk := h.l
 rw [uBm, uAf]
 by_cases c : (m.length : Int) = k ∧ k ≠ 0
 ·have h0 : 0 < m.length := by omega
  rw [if_pos c, if_neg (by omega), h.last h0, uIm h0]
 ·rw [if_neg c, if_pos (by omega)]
theorem TopOk.list {k : Int} {m L : List Near} (h : TopOk k m L) : uAi m = L := uBn (uAv m) h.s ((uAr m).trans h.p)
theorem TopOk.add {k : Int} {m L m2 : List Near} {n : Near} {b : Bool} (h : TopOk k m L) (k0 : 0 ≤ k) (ha : uCl k m n b m2) : b = uCw k L n ∧ TopOk k m2 (uAn k L n) := by
 have hl := h.len
 have hk := h.l
 have hil := insV_len L n
 unfold uCl at ha
 split at ha
 ·rename_i c
  obtain ⟨rfl, hp, hh⟩ := ha
  have hy : uCw k L n = true := uQ0 (by omega)
  have e : uAn k L n = insV L n := by rw [uAn, if_pos hy, List.take_of_length_le (by omega)]
  refine ⟨hy.symm, ?_⟩
  rw [e]
  exact ⟨hp.trans ((List.perm_append_comm.trans (h.p.cons n)).trans (uHh L n).symm), uC4 h.s n, hh, by omega⟩
 ·rename_i c
  have hlk : (L.length : Int) = k := by omega
  by_cases hk0 : k = 0
  ·rw [if_pos (Or.inl hk0)] at ha
   obtain ⟨rfl, rfl⟩ := ha
   have hn := uQz (n := n) hlk (Or.inl hk0)
   exact ⟨hn.symm, by rw [uAn, if_neg (by rw [hn]; simp)]; exact h⟩
  ·have h0 : 0 < m.length := by omega
   have hlast := h.last h0 n
   rw [uIm h0, ← hlast] at ha
   split at ha
   ·rename_i c2
    obtain ⟨rfl, rfl⟩ := ha
    have hn := uQz (n := n) hlk (Or.inr (c2.resolve_left hk0))
    exact ⟨hn.symm, by rw [uAn, if_neg (by rw [hn]; simp)]; exact h⟩
   ·rename_i c2
    obtain ⟨rfl, hp, hh⟩ := ha
    have hlt : uAe n (L.getLastD n) = true := by
     cases q : uAe n (L.getLastD n) with
     | true => rfl
     | false => exact absurd (Or.inr q) c2
    have hy := keep_yes (K := k) (L := L) (n := n) hk0 hlt
    have e : uAn k L n = (insV L n).take L.length := by rw [uAn, if_pos hy]; congr 1; omega
    refine ⟨hy.symm, ?_⟩
    rw [e]
    obtain ⟨p, hpl⟩ : ∃ p, L.length = p + 1 := ⟨L.length - 1, by omega⟩
    have hpos : posV L n L.length ≤ p := by
     have := (uEf L n L.length (Nat.le_refl _)).2
     have hle := uGn L n L.length
     rcases Nat.lt_or_ge p (posV L n L.length) with q | q
     ·exfalso
      have q2 : posV L n L.length = p + 1 := by omega
      rcases this with t | ⟨t1, t2⟩
      ·omega
      ·simp only [q2] at t2
       rw [uCe n hpl] at hlt
       simp only [Nat.add_sub_cancel] at t2
       rw [t2] at hlt; cases hlt
     ·exact q
    have hsplit : insV L n = (insV L n).take L.length ++ [L[p]'(by omega)] := by
     conv => lhs; rw [← List.take_append_drop L.length (insV L n)]
     congr 1
     rw [insV, List.drop_append]
     generalize posV L n L.length = q at *
     rw [List.drop_of_length_le (by rw [List.length_take]; omega), List.length_take, Nat.min_eq_left (by omega), List.nil_append,
      show L.length - q = (L.length - q - 1) + 1 by omega, List.drop_succ_cons, List.drop_drop, show q + (L.length - q - 1) = p by omega, drop_get (show p < L.length by omega), List.drop_of_length_le (by omega)]
    have hm : m = m[0] :: m.drop 1 := by cases m with | nil => simp at h0 | cons a m => rfl
    have hset : m.set 0 n = n :: m.drop 1 := by cases m with | nil => simp at h0 | cons a m => rfl
    have hperm : ((insV L n).take L.length).Perm (n :: m.drop 1) := by
     have h1 : ((insV L n).take L.length ++ [L[p]'(by omega)]).Perm ((n :: m.drop 1) ++ [L[p]'(by omega)]) := by
      rw [← hsplit]
      refine (uHh L n).trans ?_
      refine ((h.p.symm.cons n)).trans ?_
      rw [hm]
      rw [uCe n hpl] at hlast
      rw [show (m[0] :: m.drop 1).drop 1 = m.drop 1 from rfl, hlast]
      exact ((List.perm_append_comm (l₁ := m.drop 1) (l₂ := [m[0]])).symm.cons n)
     exact (List.perm_append_right_iff _).1 h1
    exact ⟨hp.trans (by rw [hset]; exact hperm.symm), (uC4 h.s n).sublist (List.take_sublist _ _), hh, by rw [List.length_take]; omega⟩
theorem TopOk.one {k : Int} {n : Near} (h : 0 < k) : TopOk k [n] (uAn k [] n) ∧ uCw k [] n = true := by
 have hy : uCw k [] n = true := uQ0 (by simp; omega)
 have e : uAn k [] n = [n] := by rw [uAn, if_pos hy]; show List.take k.toNat [n] = [n]; exact List.take_of_length_le (by simp; omega)
 rw [e]
 refine ⟨⟨List.Perm.refl _, List.pairwise_singleton _ _, fun j hj h0 => by simp at hj; omega, by simp; omega⟩, hy⟩
abbrev uNd := (Int × Unit) × (Unit)
noncomputable def uV6 : Tel (Int × Unit) := .ji 0 (.nil)
noncomputable def uP8 : BTel (Unit) := .nil
abbrev uKb := Unit × Unit × Unit
noncomputable def uKq (R0 : uNd → uKb → uAo → Prop) : List (Res uNd) := [⟨Unit × Unit × Unit, uAo, .cons 0 (.ptr 0) (.cons 1 (.num .i64 0) (.nil)), .cons uBp (.nil), R0⟩]
theorem newYFn (k : Int) (R0 : uNd → uKb → uAo → Prop) : (callW PP (runW PP (KL [] []) 200) 20 (uV6.cells id (k, ())) (stL false (uP8.obs id ())) (fun v st => resAny 0 ((k, ()), ()) v st (uKq R0))) = ( ifp (!leInt 0 k) False (ifp (!leInt k 16777216) False (true = true ∧ R0 ((k, ()), ()) ((), (), ()) ((k, (), ()), ())))) := by kernel_rfl
def uEi : uNd → Prop := fun ((k, ()), ()) => 0 ≤ k ∧ k ≤ 16777216
def uIf : uNd → uKb → uAo → Prop := fun ((k, ()), ()) _ ((k2, _), _) => k2 = k
noncomputable def uSm : CallC := callC 0 uV6 uP8 uEi (uKq uIf)
theorem newYStep (z : uNd) (hp : uEi z) : callW PP (runW PP (KL [] []) 200) 20 (uV6.cells id z.1) (stL false (uP8.obs id z.2)) (fun v st => resAny 0 z v st (uKq uIf)) := by
 obtain ⟨⟨k, _⟩, _⟩ := z
 refine (newYFn k _).mpr ?_
 obtain ⟨h1, h2⟩ := hp
 rw [ifp_lt, if_neg (by omega), ifp_lt, if_neg (by omega)]
 exact ⟨rfl, rfl⟩
theorem uP7 : CcOk PP 20 uSm := call_ok mixed (KL_ok (cc_nil)) rfl newYStep
end Go.Proofs.YteehkdejkemnmaaDoor
