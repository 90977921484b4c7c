/- Part of the proof of RerankExact. -/
import Derived.Test.YteehkdejkemnmacDoorRows
import Derived.Test.YteehkdejkemnmacDoorDd
import Derived.ProofKit
import Derived.Shelf.SlicesE.Clone
import Derived.Ground.SlgnProg
import Derived.Test.YteehkdejkemnmacDoorProg
import Derived.Shelf.SlSortCmp.NoneTotal
import Derived.Ground.SlsfProg
import Derived.Test.YteehkdejkemnmacDoorDe
set_option linter.unusedVariables false
set_option linter.unusedSimpArgs false
namespace Go.Proofs.YteehkdejkemnmacDoor
open Go.Det Go.RowKit
noncomputable abbrev PP := Tryd.prog
set_option maxRecDepth 100000
theorem mixed : Tryd.prog.follows .mixedOrders = true := by kernel_rfl
abbrev Ei64 : Enc Int := Enc.int .i64
def uAu (n m : Int) : Int := if m < 1 then 0 else n % m
theorem pick_eq {n m : Int} (h : 1 ≤ m) : n % m = if n.tmod m < 0 then n.tmod m + m else n.tmod m := by
 have e := Int.mul_tdiv_add_tmod n m
 have h1 : n.tmod m < m := Int.tmod_lt_of_pos n (by omega)
 have h2 : -m < n.tmod m := by
  have := Int.tmod_lt_of_pos (-n) (show 0 < m by omega)
  rw [Int.neg_tmod] at this; omega
 have e2 : n % m = (n.tmod m) % m := by
  conv => lhs; rw [← e, Int.add_comm, Int.add_mul_emod_self_left]
 rw [e2]
 split
 ·rename_i h3
  rw [← Int.add_emod_right, Int.emod_eq_of_lt (by omega) (by omega)]
 ·rename_i h3
  exact Int.emod_eq_of_lt (by omega) h1
noncomputable def pickT : Tel (Int × Int × Unit) := .ji 0 (.ji 1 (.nil))
theorem pickFn (n m : Int) (Q : AV → Prop) : (uA2 Tryd.prog (runW Tryd.prog (KL [] []) 200) 7 (pickT.cells id (n, m, ())) (stE false) (fun x st => frzW st x Q)) = ( ifp (!uAf 1 m) (Q (I64 0)) (m ≠ 0 ∧ ifp (!uAf 0 (n.tmod m)) (Q (I64 (uAa .i64 ((n.tmod m).add m)))) (Q (I64 (n.tmod m))))) := by kernel_rfl
def pickPre : Int × Int × Unit → Prop := fun (n, m, ()) => -9223372036854775808 ≤ n ∧ n < 9223372036854775808 ∧ m < 9223372036854775808
noncomputable def pickRes : Int × Int × Unit → AV := fun (n, m, ()) => .int .i64 (uAu n m)
noncomputable def pickK : uA6 := valC pickT pickPre pickRes
theorem pickVal (n : Int) (m : Int) (hp : pickPre (n, m, ())) : Val Tryd.prog 7 (pickT.cells id (n, m, ())) (pickRes (n, m, ())) := by
 refine Val.ofF mixed (uC8 (uAq)) (uDa rfl _) (pickFn n m) ?_
 obtain ⟨p1, p2, p3⟩ := hp
 rw [uAe]
 split
 ·rename_i h
  exact uAr (by rw [uAu, if_pos h])
 ·rename_i h
  refine ⟨by omega, ?_⟩
  rw [uAe]
  have e := pick_eq (n := n) (m := m) (by omega)
  have h1 : Int.tmod n m < m := Int.tmod_lt_of_pos n (by omega)
  have h2 : -m < Int.tmod n m := by
   have := Int.tmod_lt_of_pos (-n) (show 0 < m by omega)
   rw [Int.neg_tmod] at this; omega
  split
  ·rename_i h3
   exact uAr (by rw [uAu, if_neg h, e, if_pos h3]; exact wadd (by omega) (by omega))
  ·rename_i h3
   exact uAr (by rw [uAu, if_neg h, e, if_neg h3])
theorem pickCc : CcOk Tryd.prog 7 pickK := uC2 rfl (fun ⟨n, ⟨m, _⟩⟩ h => pickVal n m h)
theorem pick_range {n m : Int} (h : 0 < m) : 0 ≤ uAu n m ∧ uAu n m < m := by
 rw [uAu, if_neg (by omega)]
 exact ⟨Int.emod_nonneg _ (by omega), Int.emod_lt_of_pos _ h⟩
end Go.Proofs.YteehkdejkemnmacDoor
namespace Go.Proofs
open Go.Shelf
def Tryd.clone43_ren : Go.Shelf.Ren := ⟨fun | 41 => 43 | n => n, fun | 22 => 33 | 23 => 54 | 4 => 4 | n => n, fun | n => n⟩
theorem Tryd.clone43 : Go.Proofs.SlLaysE0.n41 Tryd.prog Tryd.clone43_ren := {
  mixed := by kernel_rfl
  f41 := ⟨Tryd.f43.name, by decide, Tryd.func43.trans (congrArg some (by kernel_rfl))⟩
  t4 := Tryd.underlying4
  a4 := Tryd.isAgg4
  z4 := Tryd.sizeOf4
  v4 := Tryd.zeroValue4
  t22 := Tryd.underlying33
  a22 := Tryd.isAgg33
  z22 := Tryd.sizeOf33
  v22 := Tryd.zeroValue33 }
end Go.Proofs
namespace Go.Proofs
open Go.Shelf
def Tryd.sort49_ren : Go.Shelf.Ren := ⟨fun | 6 => 49 | 15 => 64 | 14 => 63 | 28 => 77 | 29 => 78 | 20 => 69 | 21 => 70 | 22 => 71 | 23 => 72 | 24 => 73 | 25 => 74 | 26 => 75 | 27 => 76 | 46 => 82 | 47 => 83 | 48 => 84 | 49 => 85 | 50 => 86 | 57 => 89 | n => n, fun | 22 => 35 | 24 => 46 | 25 => 104 | 3 => 3 | 39 => 117 | 0 => 0 | 53 => 132 | 55 => 89 | 4 => 4 | 46 => 125 | 45 => 124 | 50 => 129 | 5 => 5 | 9 => 9 | 66 => 135 | 70 => 139 | 76 => 142 | 77 => 143 | n => n, fun | n => n⟩
theorem Tryd.sort49 : Go.Proofs.SlLaysF0.n6 Tryd.prog Tryd.sort49_ren := {
  mixed := by kernel_rfl
  f6 := ⟨Tryd.f49.name, by decide, Tryd.func49.trans (congrArg some (by kernel_rfl))⟩
  f14 := ⟨Tryd.f63.name, by decide, Tryd.func63.trans (congrArg some (by kernel_rfl))⟩
  f15 := Tryd.func64.trans (congrArg some (by kernel_rfl))
  f20 := ⟨Tryd.f69.name, by decide, Tryd.func69.trans (congrArg some (by kernel_rfl))⟩
  f21 := ⟨Tryd.f70.name, by decide, Tryd.func70.trans (congrArg some (by kernel_rfl))⟩
  f22 := ⟨Tryd.f71.name, by decide, Tryd.func71.trans (congrArg some (by kernel_rfl))⟩
  f23 := ⟨Tryd.f72.name, by decide, Tryd.func72.trans (congrArg some (by kernel_rfl))⟩
  f24 := ⟨Tryd.f73.name, by decide, Tryd.func73.trans (congrArg some (by kernel_rfl))⟩
  f25 := ⟨Tryd.f74.name, by decide, Tryd.func74.trans (congrArg some (by kernel_rfl))⟩
  f26 := ⟨Tryd.f75.name, by decide, Tryd.func75.trans (congrArg some (by kernel_rfl))⟩
  f27 := ⟨Tryd.f76.name, by decide, Tryd.func76.trans (congrArg some (by kernel_rfl))⟩
  f28 := Tryd.func77.trans (congrArg some (by kernel_rfl))
  f29 := Tryd.func78.trans (congrArg some (by kernel_rfl))
  f46 := ⟨Tryd.f82.name, by decide, Tryd.func82.trans (congrArg some (by kernel_rfl))⟩
  f47 := Tryd.func83.trans (congrArg some (by kernel_rfl))
  f48 := Tryd.func84.trans (congrArg some (by kernel_rfl))
  f49 := ⟨Tryd.f85.name, by decide, Tryd.func85.trans (congrArg some (by kernel_rfl))⟩
  f50 := ⟨Tryd.f86.name, by decide, Tryd.func86.trans (congrArg some (by kernel_rfl))⟩
  f57 := ⟨Tryd.f89.name, by decide, Tryd.func89.trans (congrArg some (by kernel_rfl))⟩
  t0 := Tryd.underlying0
  a0 := Tryd.isAgg0
  z0 := Tryd.sizeOf0
  v0 := Tryd.zeroValue0
  t3 := Tryd.underlying3
  a3 := Tryd.isAgg3
  z3 := Tryd.sizeOf3
  v3 := Tryd.zeroValue3
  t4 := Tryd.underlying4
  a4 := Tryd.isAgg4
  z4 := Tryd.sizeOf4
  v4 := Tryd.zeroValue4
  t5 := Tryd.underlying5
  a5 := Tryd.isAgg5
  z5 := Tryd.sizeOf5
  v5 := Tryd.zeroValue5
  t9 := Tryd.underlying9
  a9 := Tryd.isAgg9
  z9 := Tryd.sizeOf9
  v9 := Tryd.zeroValue9
  t22 := Tryd.underlying35
  a22 := Tryd.isAgg35
  z22 := Tryd.sizeOf35
  v22 := Tryd.zeroValue35
  t25 := Tryd.underlying104
  a25 := Tryd.isAgg104
  z25 := Tryd.sizeOf104
  v25 := Tryd.zeroValue104
  t39 := Tryd.underlying117
  a39 := Tryd.isAgg117
  z39 := Tryd.sizeOf117
  v39 := Tryd.zeroValue117
  t45 := Tryd.underlying124
  a45 := Tryd.isAgg124
  z45 := Tryd.sizeOf124
  v45 := Tryd.zeroValue124
  t46 := Tryd.underlying125
  a46 := Tryd.isAgg125
  z46 := Tryd.sizeOf125
  v46 := Tryd.zeroValue125
  t50 := Tryd.underlying129
  a50 := Tryd.isAgg129
  z50 := Tryd.sizeOf129
  v50 := Tryd.zeroValue129
  t53 := Tryd.underlying132
  a53 := Tryd.isAgg132
  z53 := Tryd.sizeOf132
  v53 := Tryd.zeroValue132
  t55 := Tryd.underlying89
  a55 := Tryd.isAgg89
  z55 := Tryd.sizeOf89
  v55 := Tryd.zeroValue89
  t66 := Tryd.underlying135
  a66 := Tryd.isAgg135
  z66 := Tryd.sizeOf135
  v66 := Tryd.zeroValue135
  t70 := Tryd.underlying139
  a70 := Tryd.isAgg139
  z70 := Tryd.sizeOf139
  v70 := Tryd.zeroValue139
  t76 := Tryd.underlying142
  a76 := Tryd.isAgg142
  z76 := Tryd.sizeOf142
  v76 := Tryd.zeroValue142
  t77 := Tryd.underlying143
  a77 := Tryd.isAgg143
  z77 := Tryd.sizeOf143
  v77 := Tryd.zeroValue143 }
end Go.Proofs
namespace Go.Proofs.YteehkdejkemnmacDoor
open Go.Det Go.RowKit
set_option maxRecDepth 100000
abbrev Cd := Int × Int × Int × Int × Unit
abbrev Ec : Enc Cd := Enc.pair (Enc.int .i64) (Enc.pair (Enc.int .i64) (Enc.pair (Enc.int .i64) (Enc.pair (Enc.int .i64) Enc.unit)))
theorem nth_cd {l : List Cd} {k j : Nat} (h : k < l.length) (hj : j < 4) : nth (Nat.add (Nat.mul k 4) j) (l.flatMap Ec.f) = (Ec.f l[k])[j]? := by rw [uDk]; exact enc_get (E := Ec) l k j h hj
theorem nth_cd0 {l : List Cd} {k : Nat} (h : k < l.length) : nth (Nat.add (Nat.mul k 4) 0) (l.flatMap Ec.f) = some (.int .i64 l[k].1) := nth_cd h (by decide)
theorem nth_cd1 {l : List Cd} {k : Nat} (h : k < l.length) : nth (Nat.add (Nat.mul k 4) 1) (l.flatMap Ec.f) = some (.int .i64 l[k].2.1) := nth_cd h (by decide)
theorem nth_cd2 {l : List Cd} {k : Nat} (h : k < l.length) : nth (Nat.add (Nat.mul k 4) 2) (l.flatMap Ec.f) = some (.int .i64 l[k].2.2.1) := nth_cd h (by decide)
theorem nth_cd3 {l : List Cd} {k : Nat} (h : k < l.length) : nth (Nat.add (Nat.mul k 4) 3) (l.flatMap Ec.f) = some (.int .i64 l[k].2.2.2.1) := nth_cd h (by decide)
theorem nth_cdR {l : List Cd} {k j : Nat} (h : k < l.length) (hj : j < 4) : nth (Nat.add (Nat.add 0 (Nat.mul k 4)) j) (l.flatMap Ec.f) = (Ec.f l[k])[j]? := by rw [show Nat.add 0 (Nat.mul k 4) = Nat.mul k 4 from Nat.zero_add _]; exact nth_cd h hj
theorem uCs {l : List Cd} {k : Nat} (h : k < l.length) : nth (Nat.add (Nat.add 0 (Nat.mul k 4)) 0) (l.flatMap Ec.f) = some (.int .i64 l[k].1) := nth_cdR h (by decide)
theorem uCr {l : List Cd} {k : Nat} (h : k < l.length) : nth (Nat.add (Nat.add 0 (Nat.mul k 4)) 1) (l.flatMap Ec.f) = some (.int .i64 l[k].2.1) := nth_cdR h (by decide)
theorem uCq {l : List Cd} {k : Nat} (h : k < l.length) : nth (Nat.add (Nat.add 0 (Nat.mul k 4)) 2) (l.flatMap Ec.f) = some (.int .i64 l[k].2.2.1) := nth_cdR h (by decide)
theorem uCp {l : List Cd} {k : Nat} (h : k < l.length) : nth (Nat.add (Nat.add 0 (Nat.mul k 4)) 3) (l.flatMap Ec.f) = some (.int .i64 l[k].2.2.2.1) := nth_cdR h (by decide)
theorem cd_len (l : List Cd) : (l.flatMap Ec.f).length = l.length * 4 := Enc.flen Ec l
theorem cd_set {l : List Cd} {k : Nat} {x : Cd} (h : k < l.length) : setAt (Nat.add 0 (Nat.mul k 4)) [AV.int .i64 x.1, AV.int .i64 x.2.1, AV.int .i64 x.2.2.1, AV.int .i64 x.2.2.2.1] (l.flatMap Ec.f) = (l.set k x).flatMap Ec.f := by
 rw [show Nat.add 0 (Nat.mul k 4) = k * 4 from Nat.zero_add _]; exact enc_set (E := Ec) h
theorem cd_fit {l : List Cd} {k n : Nat} (h : k < n) (hn : l.length = n) : (Nat.add 0 (Nat.mul k 4)).add 4 ≤ (l.flatMap Ec.f).length := by
 rw [cd_len, show Nat.add 0 (Nat.mul k 4) = k * 4 from Nat.zero_add _]; show k * 4 + 4 ≤ _; omega
theorem cd_sw {l : List Cd} {i j : Nat} (hi : i < l.length) (hj : j < l.length) : setAt (Nat.add 0 (Nat.mul j 4)) [AV.int .i64 l[i].1, AV.int .i64 l[i].2.1, AV.int .i64 l[i].2.2.1, AV.int .i64 l[i].2.2.2.1] (setAt (Nat.add 0 (Nat.mul i 4)) [AV.int .i64 l[j].1, AV.int .i64 l[j].2.1, AV.int .i64 l[j].2.2.1, AV.int .i64 l[j].2.2.2.1] (l.flatMap Ec.f)) = (Stab.sw l i j).flatMap Ec.f := by
 rw [cd_set hi, cd_set (x := l[i]) (by simpa using hj), Stab.sw_eq hi hj]
def cmpV (a b : Int) : Int := if a < b then -1 else if b < a then 1 else 0
noncomputable def cmpT : Tel (Int × Int × Unit) := .ji 0 (.ji 1 (.nil))
theorem cmpFn (a b : Int) (Q : AV → Prop) : (uA2 PP (runW PP (KL [] []) 200) 47 (cmpT.cells id (a, b, ())) (stE false) (fun x st => frzW st x Q)) = ( ifp (!uA0 a a) (ifp (!uA0 b b) (Q (I64 0)) (Q (I64 (-1)))) (ifp (!uA0 b b) (Q (I64 1)) (ifp (!uAf b a) (Q (I64 (-1))) (ifp (!uAf a b) (Q (I64 1)) (Q (I64 0)))))) := by kernel_rfl
def cmpPre : Int × Int × Unit → Prop := fun (a, b, ()) => True
noncomputable def cmpRes : Int × Int × Unit → AV := fun (a, b, ()) => .int .i64 (cmpV a b)
noncomputable def cmpK : uA6 := valC cmpT cmpPre cmpRes
theorem cmpVal (a : Int) (b : Int) (hp : cmpPre (a, b, ())) : Val PP 47 (cmpT.cells id (a, b, ())) (cmpRes (a, b, ())) := by
 refine Val.ofF mixed (uC8 (uAq)) (uDa rfl _) (cmpFn a b) ?_
 rw [uBu, if_pos rfl, uBu, if_pos rfl, uAe]
 split
 ·rename_i h; exact uAr (by rw [cmpV, if_pos h])
 ·rename_i h
  rw [uAe]
  split
  ·rename_i h2; exact uAr (by rw [cmpV, if_neg h, if_pos h2])
  ·rename_i h2; exact uAr (by rw [cmpV, if_neg h, if_neg h2])
theorem cmpCc : CcOk PP 47 cmpK := uC2 rfl (fun ⟨a, ⟨b, _⟩⟩ h => cmpVal a b h)
noncomputable def lowV (a : Cd) : Int := uAa .i64 (Int.sub a.2.1 a.2.2.1)
noncomputable def lowT : Tel (Cd × Unit) := .cons 0 (.agg Ec) (.nil)
theorem lowFn (a : Cd) (Q : AV → Prop) : (uA2 PP (runW PP (KL [] []) 200) 27 (lowT.cells id (a, ())) (stE false) (fun x st => frzW st x Q)) = ( Q (I64 (uAa .i64 (a.2.1.sub a.2.2.1)))) := by kernel_rfl
def lowPre : Cd × Unit → Prop := fun (a, ()) => True
noncomputable def lowRes : Cd × Unit → AV := fun (a, ()) => .int .i64 (lowV a)
noncomputable def lowK : uA6 := valC lowT lowPre lowRes
theorem lowVal (a : Cd) (hp : lowPre (a, ())) : Val PP 27 (lowT.cells id (a, ())) (lowRes (a, ())) := by
 refine Val.ofF mixed (uC8 (uAq)) (uDa rfl _) (lowFn a) ?_
 exact uAr rfl
theorem lowCc : CcOk PP 27 lowK := uC2 rfl (fun ⟨a, _⟩ h => lowVal a h)
noncomputable def cmpcV (a b : Cd) : Int := if cmpV (lowV a) (lowV b) ≠ 0 then cmpV (lowV a) (lowV b) else cmpV a.1 b.1
noncomputable def cmpcT : Tel (Cd × Cd × Unit) := .cons 0 (.agg Ec) (.cons 1 (.agg Ec) (.nil))
theorem cmpcFn (a b : Cd) (Q : AV → Prop) : (uA2 PP (runW PP (KL [(47, cmpK), (27, lowK)] []) 200) 45 (cmpcT.cells id (a, b, ())) (stE false) (fun x st => frzW st x Q)) = ( ∃ (a_1 : Cd), AV.agg [I64 a.1, I64 a.2.1, I64 a.2.2.1, I64 a.2.2.2.1] = AV.agg [I64 a_1.1, I64 a_1.2.1, I64 a_1.2.2.1, I64 a_1.2.2.2.1] ∧ lowPre (a_1, ()) ∧ ∃ (a_2 : Cd), AV.agg [I64 b.1, I64 b.2.1, I64 b.2.2.1, I64 b.2.2.2.1] = AV.agg [I64 a_2.1, I64 a_2.2.1, I64 a_2.2.2.1, I64 a_2.2.2.2.1] ∧ lowPre (a_2, ()) ∧ cmpPre (lowV a_1, lowV a_2, ()) ∧ cmpPre (a.1, b.1, ()) ∧ uAp 0 2 ∧ ifp (!uA0 (cmpV (lowV a_1) (lowV a_2)) 0) (True ∧ (AV.agg [I64 b.1, I64 b.2.1, I64 b.2.2.1, I64 b.2.2.2.1] = AV.agg [I64 b.1, I64 b.2.1, I64 b.2.2.1, I64 b.2.2.2.1] ∧ True) ∧ (I64 a.1 = I64 a.1 ∧ I64 a.1 = I64 a.1 ∧ I64 a.1 = I64 a.1 ∧ True) ∧ (I64 b.1 = I64 b.1 ∧ I64 b.1 = I64 b.1 ∧ I64 b.1 = I64 b.1 ∧ True) ∧ Q (I64 (cmpV (lowV a_1) (lowV a_2)))) (uAp (uAa .i64 (Int.add 0 1)) 2 ∧ ifp (!uA0 (cmpV a.1 b.1) 0) (True ∧ (AV.agg [I64 b.1, I64 b.2.1, I64 b.2.2.1, I64 b.2.2.2.1] = AV.agg [I64 b.1, I64 b.2.1, I64 b.2.2.1, I64 b.2.2.2.1] ∧ True) ∧ (I64 a.1 = I64 a.1 ∧ I64 a.1 = I64 a.1 ∧ I64 a.1 = I64 a.1 ∧ True) ∧ (I64 b.1 = I64 b.1 ∧ I64 b.1 = I64 b.1 ∧ I64 b.1 = I64 b.1 ∧ True) ∧ Q (I64 (cmpV a.1 b.1))) (True ∧ (AV.agg [I64 b.1, I64 b.2.1, I64 b.2.2.1, I64 b.2.2.2.1] = AV.agg [I64 b.1, I64 b.2.1, I64 b.2.2.1, I64 b.2.2.2.1] ∧ True) ∧ (I64 a.1 = I64 a.1 ∧ I64 a.1 = I64 a.1 ∧ I64 a.1 = I64 a.1 ∧ True) ∧ (I64 b.1 = I64 b.1 ∧ I64 b.1 = I64 b.1 ∧ I64 b.1 = I64 b.1 ∧ True) ∧ Q (I64 0)))) := by kernel_rfl
def cmpcPre : Cd × Cd × Unit → Prop := fun (a, b, ()) => True
noncomputable def cmpcRes : Cd × Cd × Unit → AV := fun (a, b, ()) => .int .i64 (cmpcV a b)
noncomputable def cmpcK : uA6 := valC cmpcT cmpcPre cmpcRes
theorem cmpcVal (a : Cd) (b : Cd) (hp : cmpcPre (a, b, ())) : Val PP 45 (cmpcT.cells id (a, b, ())) (cmpcRes (a, b, ())) := by
 refine Val.ofF mixed (uC8 (uAi cmpCc (uAi lowCc (uAq)))) (uDa rfl _) (cmpcFn a b) ?_
 refine ⟨a, rfl, trivial, b, rfl, trivial, trivial, trivial, uA8 (by decide), ?_⟩
 rw [uBu]
 split
 ·rename_i h
  refine ⟨⟨by decide, by decide⟩, ?_⟩
  rw [uBu]
  split
  ·rename_i h2
   exact ⟨trivial, ⟨(by trivial), trivial⟩, ⟨(by trivial), (by trivial), (by trivial), trivial⟩, ⟨(by trivial), (by trivial), (by trivial), trivial⟩, uAr (by rw [cmpcV, if_neg (by omega), h2])⟩
  ·exact ⟨trivial, ⟨(by trivial), trivial⟩, ⟨(by trivial), (by trivial), (by trivial), trivial⟩, ⟨(by trivial), (by trivial), (by trivial), trivial⟩, uAr (by rw [cmpcV, if_neg (by omega)])⟩
 ·rename_i h
  exact ⟨trivial, ⟨(by trivial), trivial⟩, ⟨(by trivial), (by trivial), (by trivial), trivial⟩, ⟨(by trivial), (by trivial), (by trivial), trivial⟩, uAr (by rw [cmpcV, if_pos h])⟩
theorem cmpcCc : CcOk PP 45 cmpcK := uC2 rfl (fun ⟨a, ⟨b, _⟩⟩ h => cmpcVal a b h)
noncomputable def ltC (a b : Cd) : Bool := decide (cmpcV a b < 0)
theorem cmpcV_lt {a b : Cd} : cmpcV a b < 0 ↔ lowV a < lowV b ∨ lowV a = lowV b ∧ a.1 < b.1 := by
 unfold cmpcV cmpV; split <;> (repeat' split) <;> omega
theorem ltC_iff {a b : Cd} : ltC a b = true ↔ lowV a < lowV b ∨ lowV a = lowV b ∧ a.1 < b.1 := by rw [ltC, decide_eq_true_iff, cmpcV_lt]
theorem weakC : Stab.Weak ltC where
 irr a := by rw [← Bool.not_eq_true, ltC_iff]; omega
 tr a b c h1 h2 := by rw [ltC_iff] at *; omega
 ntr a b c h1 h2 := by rw [← Bool.not_eq_true, ltC_iff] at *; omega
end Go.Proofs.YteehkdejkemnmacDoor
namespace Go.Proofs.YteehkdejkemnmacDoor
open Go.Det Go.RowKit
set_option maxRecDepth 100000
abbrev qStRt2 := Nat × Nat
abbrev swrLZ := (qStRt2 × Int × Int × Int × Int × Unit) × ((List Cd) × Unit)
noncomputable def swrLSl : Tel (qStRt2 × Int × Int × Int × Int × Unit) := .cons 0 (.slq 0 4) (.ji 1 (.ji 2 (.ji 3 (.ji 10 (.nil)))))
noncomputable def swrLBl : BTel ((List Cd) × Unit) := .cons (.rows Ec 54) (.nil)
noncomputable def swrLFs : List (LForm swrLZ) := [⟨_, _, swrLSl, swrLBl, fun x y => (x, y)⟩]
abbrev uBc := (List Cd) × Unit
noncomputable def swrLAlts (R0 : swrLZ → (Unit) → uBc → Prop) : List (Alt swrLZ) := [⟨.exit 0, Unit, uBc, .nil, .cons (.rows Ec 54) (.nil), R0⟩]
noncomputable abbrev qStRk1 := KLS [] [] 54
theorem swrLForm (d : Nat × Nat) (a b n i : Int) (m : List Cd) (N : swrLZ → Prop) (R0 : swrLZ → (Unit) → uBc → Prop) : ((runW PP qStRk1 100).code none 88 38 (uAd PP 88 1) (mkT (swrLSl.av id (d, a, b, n, i, ()))) [] (stL false (swrLBl.obs id (m, ()))) (uCh 1 swrLFs (swrLAlts R0) ((d, a, b, n, i, ()), m, ()) N)) = ( ifp (!uAf n i) (uAp (uAa .i64 (b.add i)) d.1 ∧ ∃ x : Int, nth ((Nat.add 0 ((uAc (uAa .i64 (b.add i))).mul 4)).add 0) (m.flatMap Ec.f) = some (I64 x) ∧ ∃ x_1 : Int, nth ((Nat.add 0 ((uAc (uAa .i64 (b.add i))).mul 4)).add 1) (m.flatMap Ec.f) = some (I64 x_1) ∧ ∃ x_2 : Int, nth ((Nat.add 0 ((uAc (uAa .i64 (b.add i))).mul 4)).add 2) (m.flatMap Ec.f) = some (I64 x_2) ∧ ∃ x_3 : Int, nth ((Nat.add 0 ((uAc (uAa .i64 (b.add i))).mul 4)).add 3) (m.flatMap Ec.f) = some (I64 x_3) ∧ uAp (uAa .i64 (a.add i)) d.1 ∧ ∃ x_4 : Int, nth ((Nat.add 0 ((uAc (uAa .i64 (a.add i))).mul 4)).add 0) (m.flatMap Ec.f) = some (I64 x_4) ∧ ∃ x_5 : Int, nth ((Nat.add 0 ((uAc (uAa .i64 (a.add i))).mul 4)).add 1) (m.flatMap Ec.f) = some (I64 x_5) ∧ ∃ x_6 : Int, nth ((Nat.add 0 ((uAc (uAa .i64 (a.add i))).mul 4)).add 2) (m.flatMap Ec.f) = some (I64 x_6) ∧ ∃ x_7 : Int, nth ((Nat.add 0 ((uAc (uAa .i64 (a.add i))).mul 4)).add 3) (m.flatMap Ec.f) = some (I64 x_7) ∧ uAp (uAa .i64 (a.add i)) d.1 ∧ (Nat.add 0 ((uAc (uAa .i64 (a.add i))).mul 4)).add 4 ≤ (m.flatMap Ec.f).length ∧ uAp (uAa .i64 (b.add i)) d.1 ∧ (Nat.add 0 ((uAc (uAa .i64 (b.add i))).mul 4)).add 4 ≤ (setAt (Nat.add 0 ((uAc (uAa .i64 (a.add i))).mul 4)) [I64 x, I64 x_1, I64 x_2, I64 x_3] (m.flatMap Ec.f)).length ∧ True ∧ True ∧ True ∧ ∃ (l : List Cd), setAt (Nat.add 0 ((uAc (uAa .i64 (b.add i))).mul 4)) [I64 x_4, I64 x_5, I64 x_6, I64 x_7] (setAt (Nat.add 0 ((uAc (uAa .i64 (a.add i))).mul 4)) [I64 x, I64 x_1, I64 x_2, I64 x_3] (m.flatMap Ec.f)) = l.flatMap Ec.f ∧ true = true ∧ N ((d, a, b, n, uAa .i64 (i.add 1), ()), l, ())) (True ∧ ∃ l, Sa Ec m l ∧ true = true ∧ R0 ((d, a, b, n, i, ()), m, ()) () (l, ()))) := by kernel_rfl
def swrLInv : swrLZ → Prop := fun ((d, a, b, n, i, ()), m, ()) => ∃ A B n2 k : Nat, a = A ∧ b = B ∧ n = n2 ∧ i = k ∧ d.1 = m.length ∧ k ≤ n2 ∧ A + n2 ≤ m.length ∧ B + n2 ≤ m.length ∧ m.length ≤ 1000000
def swrLMu : swrLZ → Nat := fun ((d, a, b, n, i, ()), m, ()) => n.toNat - i.toNat
def swrLR0 : swrLZ → (Unit) → uBc → Prop := fun ((d, a, b, n, i, ()), m, ()) _ (m2, _) => m2.length = m.length ∧ Stab.SwapR m (a.toNat + i.toNat) (b.toNat + i.toNat) (n.toNat - i.toNat) m2
noncomputable def swrLC : uB5 := uC9 1 swrLFs (swrLAlts swrLR0) swrLInv
theorem swrLStep : uA3 PP qStRk1 100 88 38 (uAd PP 88 1) 1 false swrLFs (swrLAlts swrLR0) swrLInv swrLMu ⟨_, _, swrLSl, swrLBl, fun x y => (x, y)⟩ := by
 intro x y hz
 obtain ⟨d, a, b, n, i, _⟩ := x
 obtain ⟨m, _⟩ := y
 refine (swrLForm d a b n i m _ _).mpr ?_
 obtain ⟨A, B, q, k, rfl, rfl, rfl, rfl, hd, hk, hA, hB, hm⟩ := hz
 obtain ⟨d1, d2⟩ := d
 obtain rfl : d1 = m.length := hd
 rw [uAe]
 split
 ·rename_i h
  have hkq : k < q := by omega
  have ha : A + k < m.length := by omega
  have hb : B + k < m.length := by omega
  have e1 : uAa .i64 (Int.add (A : Int) (k : Int)) = ((A + k : Nat) : Int) := by rw [wadd (by omega) (by omega)]; omega
  have e2 : uAa .i64 (Int.add (B : Int) (k : Int)) = ((B + k : Nat) : Int) := by rw [wadd (by omega) (by omega)]; omega
  have e3 : uAa .i64 (Int.add (k : Int) 1) = ((k + 1 : Nat) : Int) := by rw [wadd (by omega) (by omega)]; omega
  simp only [e1, e2, e3, uAt]
  refine ⟨uAk hb, _, uCs hb, _, uCr hb, _, uCq hb, _, uCp hb, uAk ha, _, uCs ha, _, uCr ha, _, uCq ha, _, uCp ha, uAk ha, cd_fit ha rfl, uAk hb, by rw [cd_set (x := m[B + k]) ha]; exact cd_fit hb (by simp), trivial, trivial, trivial, Stab.sw m (A + k) (B + k), cd_sw ha hb, (by trivial), ?_⟩
  have hl := Stab.sw_len m (A + k) (B + k)
  refine ⟨⟨A, B, q, k + 1, rfl, rfl, rfl, rfl, hl.symm, by omega, by omega, by omega, by omega⟩, by show q - (k + 1) < q - k; omega, fun _ d2 hr => ?_, trivial⟩
  exact ⟨hr.1.trans hl, Stab.SwapR.step (a := A + k) (b := B + k) (n := q - k) (by omega) hr.2⟩
 ·rename_i h
  refine ⟨trivial, m, rfl, (by trivial), rfl, ?_⟩
  show Stab.SwapR m (A + k) (B + k) (q - k) m
  rw [show q - k = 0 by omega]
  exact Stab.SwapR.zero m _ _
theorem swrLOk : uAs PP 88 38 (.loop (uAd PP 88 1)) (swrLC) := uBf swrLMu  mixed (uCn (uAq)) rfl (uAo swrLStep (uAx))
abbrev qStRt0 := qStRt2 × Int × Int × Int × Unit × Unit
abbrev swrZ := qStRt0 × uBc
noncomputable def swrT : Tel qStRt0 := .cons 0 (.slq 0 4) (.ji 1 (.ji 2 (.ji 3 (.cons 4 (.fnp 45 []) (.nil)))))
noncomputable def swrBl : BTel uBc := .cons (.rows Ec 54) (.nil)
noncomputable def swrRes (R0 : swrZ → (Unit) → uBc → Prop) : List (Res swrZ) := [⟨Unit, uBc, .nil, .cons (.rows Ec 54) (.nil), R0⟩]
theorem swrFn (d : Nat × Nat) (a b n : Int) (m : List Cd) (R0 : swrZ → (Unit) → uBc → Prop) : (uA2 PP (runW PP (KLS [] [(88, [(1, swrLC)])] 54) 200) 88 (swrT.cells id (d, a, b, n, (), ())) (stL false (swrBl.obs id (m, ()))) (fun v st => uA1 1 ((d, a, b, n, (), ()), m, ()) v st (swrRes R0))) = ( uAs PP 88 38 (uAd PP 88 1).loop swrLC ∧ True ∧ True ∧ ∃ l, Sa Ec m l ∧ true = true ∧ swrLInv ((d, a, b, n, 0, ()), l, ()) ∧ (∀ c d_1, swrLR0 ((d, a, b, n, 0, ()), l, ()) c d_1 → ∃ l, Sa Ec d_1.1 l ∧ true = true ∧ R0 ((d, a, b, n, (), ()), m, ()) () (l, ())) ∧ True) := by kernel_rfl
def swrPre : swrZ → Prop := fun ((d, a, b, n, (), ()), m, ()) => ∃ A B n2 : Nat, a = A ∧ b = B ∧ n = n2 ∧ d.1 = m.length ∧ A + n2 ≤ m.length ∧ B + n2 ≤ m.length ∧ m.length ≤ 1000000
def swrR0 : swrZ → (Unit) → uBc → Prop := fun ((d, a, b, n, (), ()), m, ()) _ (m2, _) => m2.length = m.length ∧ Stab.SwapR m a.toNat b.toNat n.toNat m2
noncomputable def swrK : uA6 := uD4 1 swrT swrBl swrPre (swrRes swrR0)
theorem swrStep (z : swrZ) (hp : swrPre z) : uA2 PP (runW PP (KLS [] [(88, [(1, swrLC)])] 54) 200) 88 (swrT.cells id z.1) (stL false (swrBl.obs id z.2)) (fun v st => uA1 1 z v st (swrRes swrR0)) := by
 obtain ⟨⟨d, a, b, n, _, _⟩, ⟨m, _⟩⟩ := z
 refine (swrFn d a b n m _).mpr ?_
 obtain ⟨A, B, q, rfl, rfl, rfl, hd, hA, hB, hm⟩ := hp
 refine ⟨swrLOk, trivial, trivial, m, rfl, (by trivial), ⟨A, B, q, 0, rfl, rfl, rfl, rfl, hd, Nat.zero_le _, by omega, by omega, hm⟩, fun _ d1 hr => ?_, trivial⟩
 obtain ⟨m2, _⟩ := d1
 exact ⟨m2, rfl, (by trivial), hr⟩
theorem swrCc : CcOk PP 88 swrK := uB4 mixed (uCn (uAq)) rfl swrStep
abbrev rotLZ := (qStRt2 × Int × Unit × Int × Int × Unit) × uBc
noncomputable def rotLSl : Tel (qStRt2 × Int × Unit × Int × Int × Unit) := .cons 0 (.slq 0 4) (.ji 2 (.cons 4 (.fnp 45 []) (.ji 10 (.ji 11 (.nil)))))
noncomputable def rotLBl : BTel uBc := .cons (.rows Ec 54) (.nil)
noncomputable def rotLFs : List (LForm rotLZ) := [⟨_, _, rotLSl, rotLBl, fun x y => (x, y)⟩]
abbrev qStR1 := qStRt2 × Int × Unit × Int × Unit
noncomputable def rotLAlts (R0 : rotLZ → qStR1 → uBc → Prop) : List (Alt rotLZ) := [⟨.exit 0, qStR1, uBc, .cons 0 (.slq 0 4) (.ji 2 (.cons 4 (.fnp 45 []) (.ji 10 (.nil)))), .cons (.rows Ec 54) (.nil), R0⟩]
theorem rotLForm (d : Nat × Nat) (p i j : Int) (m : List Cd) (N : rotLZ → Prop) (R0 : rotLZ → qStR1 → uBc → Prop) : ((runW PP (KLS [(88, swrK)] [] 54) 100).code none 81 58 (uAd PP 81 2) (mkT (rotLSl.av id (d, p, (), i, j, ()))) [] (stL false (rotLBl.obs id (m, ()))) (uCh 1 rotLFs (rotLAlts R0) ((d, p, (), i, j, ()), m, ()) N)) = ( ifp (!uA0 i j) (ifp (!uAf i j) (∃ l, Sa Ec m l ∧ true = true ∧ swrPre ((d, uAa .i64 (p.sub i), p, j, (), ()), l, ()) ∧ (∀ c d_1, swrR0 ((d, uAa .i64 (p.sub i), p, j, (), ()), l, ()) c d_1 → True ∧ ∃ l, Sa Ec d_1.1 l ∧ true = true ∧ N ((d, p, (), uAa .i64 (i.sub j), j, ()), l, ())) ∧ True) (∃ l, Sa Ec m l ∧ true = true ∧ swrPre ((d, uAa .i64 (p.sub i), uAa .i64 ((uAa .i64 (p.add j)).sub i), i, (), ()), l, ()) ∧ (∀ c d_1, swrR0 ((d, uAa .i64 (p.sub i), uAa .i64 ((uAa .i64 (p.add j)).sub i), i, (), ()), l, ()) c d_1 → True ∧ ∃ l, Sa Ec d_1.1 l ∧ true = true ∧ N ((d, p, (), i, uAa .i64 (j.sub i), ()), l, ())) ∧ True)) (True ∧ ∃ l, Sa Ec m l ∧ true = true ∧ R0 ((d, p, (), i, j, ()), m, ()) (d, p, (), i, ()) (l, ()))) := by kernel_rfl
def rotLInv : rotLZ → Prop := fun ((d, p, (), i, j, ()), m, ()) => ∃ M I J : Nat, p = M ∧ i = I ∧ j = J ∧ 0 < I ∧ 0 < J ∧ I ≤ M ∧ M + J ≤ m.length ∧ d.1 = m.length ∧ m.length ≤ 1000000
def rotLMu : rotLZ → Nat := fun ((d, p, (), i, j, ()), m, ()) => i.toNat + j.toNat
def rotLR0 : rotLZ → qStR1 → uBc → Prop := fun ((d, p, (), i, j, ()), m, ()) (d2, p2, _, i2, _) (m2, _) => d2.1 = m2.length ∧ p2 = p ∧ m2.length = m.length ∧ 0 < i2 ∧ i2 ≤ p ∧ p + i2 ≤ m.length ∧ ∀ m3, Stab.SwapR m2 (p.toNat - i2.toNat) p.toNat i2.toNat m3 → Stab.RotR m (p.toNat - i.toNat) p.toNat (p.toNat + j.toNat) m3
noncomputable def rotLC : uB5 := uC9 1 rotLFs (rotLAlts rotLR0) rotLInv
theorem rotLStep : uA3 PP (KLS [(88, swrK)] [] 54) 100 81 58 (uAd PP 81 2) 1 false rotLFs (rotLAlts rotLR0) rotLInv rotLMu ⟨_, _, rotLSl, rotLBl, fun x y => (x, y)⟩ := by
 intro x y hz
 obtain ⟨d, p, _, i, j, _⟩ := x
 obtain ⟨m, _⟩ := y
 refine (rotLForm d p i j m _ _).mpr ?_
 obtain ⟨M, I, J, rfl, rfl, rfl, h1, h2, h3, h4, hd, hm⟩ := hz
 obtain ⟨d1, d2⟩ := d
 obtain rfl : d1 = m.length := hd
 rw [uBu]
 split
 ·rename_i h
  obtain rfl : I = J := by omega
  exact ⟨trivial, m, rfl, (by trivial), rfl, rfl, rfl, by omega, by omega, by omega, fun m3 h5 => Stab.RotR.last h3 h5⟩
 ·rename_i h
  have e1 : uAa .i64 (Int.sub (M : Int) (I : Int)) = ((M - I : Nat) : Int) := by rw [wsub (by omega) (by omega)]; omega
  rw [uAe]
  split
  ·rename_i hji
   have e2 : uAa .i64 (Int.sub (I : Int) (J : Int)) = ((I - J : Nat) : Int) := by rw [wsub (by omega) (by omega)]; omega
   simp only [e1, e2]
   refine ⟨m, rfl, (by trivial), ⟨M - I, M, J, rfl, rfl, rfl, rfl, by omega, by omega, hm⟩, fun _ d1 hr => ?_, trivial⟩
   obtain ⟨m2, _⟩ := d1
   obtain ⟨hl, hs⟩ := hr
   replace hl : m2.length = m.length := hl
   refine ⟨trivial, m2, rfl, (by trivial), ⟨M, I - J, J, rfl, rfl, rfl, by omega, h2, by omega, by omega, hl.symm, by omega⟩, by show (I - J) + J < I + J; omega, fun c d2 hr2 => ?_, trivial⟩
   obtain ⟨dd, p2, _, i2, _⟩ := c
   obtain ⟨m3, _⟩ := d2
   obtain ⟨r1, r2, r3, r4, r5, r6, r7⟩ := hr2
   exact ⟨r1, r2, r3.trans hl, r4, r5, by rw [← hl]; exact r6, fun m4 h6 => Stab.RotR.left h3 (by omega) hs (r7 m4 h6)⟩
  ·rename_i hji
   have e2 : uAa .i64 (Int.sub (uAa .i64 (Int.add (M : Int) (J : Int))) (I : Int)) = ((M + J - I : Nat) : Int) := by
    rw [wadd (a := (M : Int)) (by omega) (by omega), wsub (by omega) (by omega)]; omega
   have e3 : uAa .i64 (Int.sub (J : Int) (I : Int)) = ((J - I : Nat) : Int) := by rw [wsub (by omega) (by omega)]; omega
   simp only [e1, e2, e3]
   refine ⟨m, rfl, (by trivial), ⟨M - I, M + J - I, I, rfl, rfl, rfl, rfl, by omega, by omega, hm⟩, fun _ d1 hr => ?_, trivial⟩
   obtain ⟨m2, _⟩ := d1
   obtain ⟨hl, hs⟩ := hr
   replace hl : m2.length = m.length := hl
   refine ⟨trivial, m2, rfl, (by trivial), ⟨M, I, J - I, rfl, rfl, rfl, h1, by omega, h3, by omega, hl.symm, by omega⟩, by show I + (J - I) < I + J; omega, fun c d2 hr2 => ?_, trivial⟩
   obtain ⟨dd, p2, _, i2, _⟩ := c
   obtain ⟨m3, _⟩ := d2
   obtain ⟨r1, r2, r3, r4, r5, r6, r7⟩ := hr2
   exact ⟨r1, r2, r3.trans hl, r4, r5, by rw [← hl]; exact r6, fun m4 h6 => Stab.RotR.right h3 (by omega) hs (r7 m4 h6)⟩
theorem rotLOk : uAs PP 81 58 (.loop (uAd PP 81 2)) (rotLC) := uBf rotLMu  mixed (uCn (uAi swrCc (uAq))) rfl (uAo rotLStep (uAx))
abbrev rotZ := qStRt0 × uBc
noncomputable def rotT : Tel qStRt0 := .cons 0 (.slq 0 4) (.ji 1 (.ji 2 (.ji 3 (.cons 4 (.fnp 45 []) (.nil)))))
noncomputable def rotBl : BTel uBc := .cons (.rows Ec 54) (.nil)
noncomputable def rotRes (R0 : rotZ → (Unit) → uBc → Prop) : List (Res rotZ) := [⟨Unit, uBc, .nil, .cons (.rows Ec 54) (.nil), R0⟩]
theorem rotFn (d : Nat × Nat) (a b n : Int) (m : List Cd) (R0 : rotZ → (Unit) → uBc → Prop) : (uA2 PP (runW PP (KLS [(88, swrK)] [(81, [(2, rotLC)])] 54) 200) 81 (rotT.cells id (d, a, b, n, (), ())) (stL false (rotBl.obs id (m, ()))) (fun v st => uA1 1 ((d, a, b, n, (), ()), m, ()) v st (rotRes R0))) = ( uAs PP 81 58 (uAd PP 81 2).loop rotLC ∧ True ∧ True ∧ ∃ l, Sa Ec m l ∧ true = true ∧ rotLInv ((d, b, (), uAa .i64 (b.sub a), uAa .i64 (n.sub b), ()), l, ()) ∧ (∀ c d_1, rotLR0 ((d, b, (), uAa .i64 (b.sub a), uAa .i64 (n.sub b), ()), l, ()) c d_1 → ∃ l, Sa Ec d_1.1 l ∧ true = true ∧ swrPre ((c.1, uAa .i64 (c.2.1.sub c.2.2.2.1), c.2.1, c.2.2.2.1, (), ()), l, ()) ∧ (∀ c_1 d_2, swrR0 ((c.1, uAa .i64 (c.2.1.sub c.2.2.2.1), c.2.1, c.2.2.2.1, (), ()), l, ()) c_1 d_2 → ∃ l, Sa Ec d_2.1 l ∧ true = true ∧ R0 ((d, a, b, n, (), ()), m, ()) () (l, ())) ∧ True) ∧ True) := by kernel_rfl
def rotPre : rotZ → Prop := fun ((d, a, b, n, (), ()), m, ()) => ∃ A M B : Nat, a = A ∧ b = M ∧ n = B ∧ A < M ∧ M < B ∧ B ≤ m.length ∧ d.1 = m.length ∧ m.length ≤ 1000000
def rotR0 : rotZ → (Unit) → uBc → Prop := fun ((d, a, b, n, (), ()), m, ()) _ (m2, _) => m2.length = m.length ∧ Stab.RotR m a.toNat b.toNat n.toNat m2
noncomputable def rotK : uA6 := uD4 1 rotT rotBl rotPre (rotRes rotR0)
theorem rotStep (z : rotZ) (hp : rotPre z) : uA2 PP (runW PP (KLS [(88, swrK)] [(81, [(2, rotLC)])] 54) 200) 81 (rotT.cells id z.1) (stL false (rotBl.obs id z.2)) (fun v st => uA1 1 z v st (rotRes rotR0)) := by
 obtain ⟨⟨d, a, b, n, _, _⟩, ⟨m, _⟩⟩ := z
 refine (rotFn d a b n m _).mpr ?_
 obtain ⟨A, M, B, rfl, rfl, rfl, h1, h2, h3, hd, hm⟩ := hp
 have e1 : uAa .i64 (Int.sub (M : Int) (A : Int)) = ((M - A : Nat) : Int) := by rw [wsub (by omega) (by omega)]; omega
 have e2 : uAa .i64 (Int.sub (B : Int) (M : Int)) = ((B - M : Nat) : Int) := by rw [wsub (by omega) (by omega)]; omega
 simp only [e1, e2]
 refine ⟨rotLOk, trivial, trivial, m, rfl, (by trivial), ⟨M, M - A, B - M, rfl, rfl, rfl, by omega, by omega, by omega, by omega, hd, hm⟩, fun c d1 hr => ?_, trivial⟩
 obtain ⟨d2, p2, _, i2, _⟩ := c
 obtain ⟨m2, _⟩ := d1
 obtain ⟨r1, r2, r3, r4, r5, r6, r7⟩ := hr
 obtain rfl : p2 = (M : Int) := r2
 obtain ⟨I, rfl⟩ := Int.eq_ofNat_of_zero_le (show 0 ≤ i2 from by have : 0 < i2 := r4; omega)
 replace r5 : (I : Int) ≤ (M : Int) := r5
 replace r3 : m2.length = m.length := r3
 replace r6 : (M : Int) + (I : Int) ≤ (m.length : Int) := r6
 have e3 : uAa .i64 (Int.sub (M : Int) (I : Int)) = ((M - I : Nat) : Int) := by rw [wsub (by omega) (by omega)]; omega
 simp only [e3]
 refine ⟨m2, rfl, (by trivial), ⟨M - I, M, I, rfl, rfl, rfl, r1, by omega, by omega, by omega⟩, fun _ d3 hr3 => ?_, trivial⟩
 obtain ⟨m3, _⟩ := d3
 obtain ⟨hl3, hs3⟩ := hr3
 refine ⟨m3, rfl, (by trivial), hl3.trans r3, ?_⟩
 have h8 : Stab.RotR m (M - (M - A)) M (M + (B - M)) m3 := r7 m3 hs3
 rw [show M - (M - A) = A by omega, show M + (B - M) = B by omega] at h8
 exact h8
theorem rotCc : CcOk PP 81 rotK := uB4 mixed (uCn (uAi swrCc (uAq))) rfl rotStep
abbrev isjZ := (qStRt2 × Int × Int × Unit × Int × Int × Unit) × uBc
noncomputable def isjSl : Tel (qStRt2 × Int × Int × Unit × Int × Int × Unit) := .cons 0 (.slq 0 4) (.ji 1 (.ji 2 (.cons 3 (.fnp 45 []) (.ji 8 (.ji 9 (.nil))))))
noncomputable def isjBl : BTel uBc := .cons (.rows Ec 54) (.nil)
noncomputable def isjFs : List (LForm isjZ) := [⟨_, _, isjSl, isjBl, fun x y => (x, y)⟩]
abbrev qStR2 := qStRt2 × Int × Int × Unit × Int × Unit
noncomputable def isjAlts (R0 : isjZ → qStR2 → uBc → Prop) : List (Alt isjZ) := [⟨.exit 2, qStR2, uBc, .cons 0 (.slq 0 4) (.ji 1 (.ji 2 (.cons 3 (.fnp 45 []) (.ji 8 (.nil))))), .cons (.rows Ec 54) (.nil), R0⟩]
noncomputable abbrev qStRk0 := KLS [(45, cmpcK)] [] 54
theorem isjForm (d : Nat × Nat) (a b i j : Int) (m : List Cd) (N : isjZ → Prop) (R0 : isjZ → qStR2 → uBc → Prop) : ((runW PP qStRk0 100).code none 67 53 (uAd PP 67 4) (mkT (isjSl.av id (d, a, b, (), i, j, ()))) [] (stL false (isjBl.obs id (m, ()))) (uCh 1 isjFs (isjAlts R0) ((d, a, b, (), i, j, ()), m, ()) N)) = ( ifp (!uAf j a) (uAp j d.1 ∧ ∃ x : Int, nth ((Nat.add 0 ((uAc j).mul 4)).add 0) (m.flatMap Ec.f) = some (I64 x) ∧ ∃ x_1 : Int, nth ((Nat.add 0 ((uAc j).mul 4)).add 1) (m.flatMap Ec.f) = some (I64 x_1) ∧ ∃ x_2 : Int, nth ((Nat.add 0 ((uAc j).mul 4)).add 2) (m.flatMap Ec.f) = some (I64 x_2) ∧ ∃ x_3 : Int, nth ((Nat.add 0 ((uAc j).mul 4)).add 3) (m.flatMap Ec.f) = some (I64 x_3) ∧ uAp (uAa .i64 (j.sub 1)) d.1 ∧ ∃ x_4 : Int, nth ((Nat.add 0 ((uAc (uAa .i64 (j.sub 1))).mul 4)).add 0) (m.flatMap Ec.f) = some (I64 x_4) ∧ ∃ x_5 : Int, nth ((Nat.add 0 ((uAc (uAa .i64 (j.sub 1))).mul 4)).add 1) (m.flatMap Ec.f) = some (I64 x_5) ∧ ∃ x_6 : Int, nth ((Nat.add 0 ((uAc (uAa .i64 (j.sub 1))).mul 4)).add 2) (m.flatMap Ec.f) = some (I64 x_6) ∧ ∃ x_7 : Int, nth ((Nat.add 0 ((uAc (uAa .i64 (j.sub 1))).mul 4)).add 3) (m.flatMap Ec.f) = some (I64 x_7) ∧ ∃ a_1 : Cd, Ag4 x x_1 x_2 x_3 a_1 ∧ ∃ a_2 : Cd, Ag4 x_4 x_5 x_6 x_7 a_2 ∧ cmpcPre (a_1, a_2, ()) ∧ ifp (!uAf 0 (cmpcV a_1 a_2)) (True ∧ True ∧ uAp (uAa .i64 (j.sub 1)) d.1 ∧ ∃ x : Int, nth ((Nat.add 0 ((uAc (uAa .i64 (j.sub 1))).mul 4)).add 0) (m.flatMap Ec.f) = some (I64 x) ∧ ∃ x_8 : Int, nth ((Nat.add 0 ((uAc (uAa .i64 (j.sub 1))).mul 4)).add 1) (m.flatMap Ec.f) = some (I64 x_8) ∧ ∃ x_9 : Int, nth ((Nat.add 0 ((uAc (uAa .i64 (j.sub 1))).mul 4)).add 2) (m.flatMap Ec.f) = some (I64 x_9) ∧ ∃ x_10 : Int, nth ((Nat.add 0 ((uAc (uAa .i64 (j.sub 1))).mul 4)).add 3) (m.flatMap Ec.f) = some (I64 x_10) ∧ uAp j d.1 ∧ ∃ x_11 : Int, nth ((Nat.add 0 ((uAc j).mul 4)).add 0) (m.flatMap Ec.f) = some (I64 x_11) ∧ ∃ x_12 : Int, nth ((Nat.add 0 ((uAc j).mul 4)).add 1) (m.flatMap Ec.f) = some (I64 x_12) ∧ ∃ x_13 : Int, nth ((Nat.add 0 ((uAc j).mul 4)).add 2) (m.flatMap Ec.f) = some (I64 x_13) ∧ ∃ x_14 : Int, nth ((Nat.add 0 ((uAc j).mul 4)).add 3) (m.flatMap Ec.f) = some (I64 x_14) ∧ uAp j d.1 ∧ (Nat.add 0 ((uAc j).mul 4)).add 4 ≤ (m.flatMap Ec.f).length ∧ uAp (uAa .i64 (j.sub 1)) d.1 ∧ (Nat.add 0 ((uAc (uAa .i64 (j.sub 1))).mul 4)).add 4 ≤ (setAt (Nat.add 0 ((uAc j).mul 4)) [I64 x, I64 x_8, I64 x_9, I64 x_10] (m.flatMap Ec.f)).length ∧ True ∧ True ∧ True ∧ ∃ (l : List Cd), setAt (Nat.add 0 ((uAc (uAa .i64 (j.sub 1))).mul 4)) [I64 x_11, I64 x_12, I64 x_13, I64 x_14] (setAt (Nat.add 0 ((uAc j).mul 4)) [I64 x, I64 x_8, I64 x_9, I64 x_10] (m.flatMap Ec.f)) = l.flatMap Ec.f ∧ true = true ∧ N ((d, a, b, (), i, uAa .i64 (j.sub 1), ()), l, ())) (T3 <| ∃ l, Sa Ec m l ∧ true = true ∧ R0 ((d, a, b, (), i, j, ()), m, ()) (d, a, b, (), i, ()) (l, ()))) (True ∧ ∃ l, Sa Ec m l ∧ true = true ∧ R0 ((d, a, b, (), i, j, ()), m, ()) (d, a, b, (), i, ()) (l, ()))) := by kernel_rfl
def isjInv : isjZ → Prop := fun ((d, a, b, (), i, j, ()), m, ()) => ∃ A J : Nat, a = A ∧ j = J ∧ A ≤ J ∧ J < m.length ∧ d.1 = m.length ∧ m.length ≤ 1000000
def isjMu : isjZ → Nat := fun ((d, a, b, (), i, j, ()), m, ()) => j.toNat
def isjR0 : isjZ → qStR2 → uBc → Prop := fun ((d, a, b, (), i, j, ()), m, ()) (d2, a2, b2, _, i2, _) (m2, _) => d2.1 = m2.length ∧ a2 = a ∧ b2 = b ∧ i2 = i ∧ m2.length = m.length ∧ Stab.InsL ltC m a.toNat j.toNat m2
noncomputable def isjC : uB5 := uC9 1 isjFs (isjAlts isjR0) isjInv
theorem isjStep : uA3 PP qStRk0 100 67 53 (uAd PP 67 4) 1 false isjFs (isjAlts isjR0) isjInv isjMu ⟨_, _, isjSl, isjBl, fun x y => (x, y)⟩ := by
 intro x y hz
 obtain ⟨d, a, b, _, i, j, _⟩ := x
 obtain ⟨m, _⟩ := y
 refine (isjForm d a b i j m _ _).mpr ?_
 obtain ⟨A, J, rfl, rfl, hA, hJ, hd, hm⟩ := hz
 obtain ⟨d1, d2⟩ := d
 obtain rfl : d1 = m.length := hd
 rw [uAe]
 split
 ·rename_i h
  have hp : J - 1 < m.length := by omega
  have e1 : uAa .i64 (Int.sub (J : Int) 1) = ((J - 1 : Nat) : Int) := by rw [wsub (by omega) (by omega)]; omega
  simp only [e1, uAt]
  refine ⟨uAk hJ, _, uCs hJ, _, uCr hJ, _, uCq hJ, _, uCp hJ, uAk hp, _, uCs hp, _, uCr hp, _, uCq hp, _, uCp hp, m[J], rfl, m[J - 1], rfl, trivial, ?_⟩
  rw [uAe]
  split
  ·rename_i hlt
   have hlt' : ltC m[J] m[J - 1] = true := by rw [ltC]; simpa using hlt
   have hl := Stab.sw_len m J (J - 1)
   refine ⟨trivial, trivial, uAk hp, _, uCs hp, _, uCr hp, _, uCq hp, _, uCp hp, uAk hJ, _, uCs hJ, _, uCr hJ, _, uCq hJ, _, uCp hJ, uAk hJ, cd_fit hJ rfl, uAk hp, by rw [cd_set (x := m[J - 1]) hJ]; exact cd_fit hp (by simp), trivial, trivial, trivial, Stab.sw m J (J - 1), cd_sw hJ hp, (by trivial), ⟨A, J - 1, rfl, rfl, by omega, by omega, hl.symm, by omega⟩, by show J - 1 < J; omega, fun c d2 hr => ?_, trivial⟩
   obtain ⟨dd, a2, b2, _, i2, _⟩ := c
   obtain ⟨m2, _⟩ := d2
   obtain ⟨r1, r2, r3, r4, r5, r6⟩ := hr
   exact ⟨r1, r2, r3, r4, r5.trans hl, Stab.InsL.step (by omega) hJ hlt' r6⟩
  ·rename_i hlt
   have hlt' : ltC m[J] m[J - 1] = false := by rw [ltC]; simpa using hlt
   exact ⟨trivial, trivial, trivial, m, rfl, (by trivial), rfl, rfl, rfl, rfl, rfl, Stab.InsL.stop weakC (by omega) hJ hlt'⟩
 ·rename_i h
  exact ⟨trivial, m, rfl, (by trivial), rfl, rfl, rfl, rfl, rfl, Stab.InsL.zero (by show J ≤ A; omega)⟩
theorem isjOk : uAs PP 67 53 (.loop (uAd PP 67 4)) (isjC) := uBf isjMu  mixed (uCn (uAi cmpcCc (uAq))) rfl (uAo isjStep (uAx))
abbrev isiZ := qStR2 × uBc
noncomputable def isiSl : Tel qStR2 := .cons 0 (.slq 0 4) (.ji 1 (.ji 2 (.cons 3 (.fnp 45 []) (.ji 8 (.nil)))))
noncomputable def isiBl : BTel uBc := .cons (.rows Ec 54) (.nil)
noncomputable def isiFs : List (LForm isiZ) := [⟨_, _, isiSl, isiBl, fun x y => (x, y)⟩]
noncomputable def isiAlts (R0 : isiZ → (Unit) → uBc → Prop) : List (Alt isiZ) := [⟨.exit 0, Unit, uBc, .nil, .cons (.rows Ec 54) (.nil), R0⟩]
theorem isiForm (d : Nat × Nat) (a b i : Int) (m : List Cd) (N : isiZ → Prop) (R0 : isiZ → (Unit) → uBc → Prop) : ((runW PP (KLS [(45, cmpcK)] [(67, [(4, isjC)])] 54) 100).code none 67 53 (uAd PP 67 1) (mkT (isiSl.av id (d, a, b, (), i, ()))) [] (stL false (isiBl.obs id (m, ()))) (uCh 1 isiFs (isiAlts R0) ((d, a, b, (), i, ()), m, ()) N)) = ( ifp (!uAf b i) (uAs PP 67 53 (uAd PP 67 4).loop isjC ∧ True ∧ True ∧ ∃ l, Sa Ec m l ∧ true = true ∧ isjInv ((d, a, b, (), i, i, ()), l, ()) ∧ (∀ c d_1, isjR0 ((d, a, b, (), i, i, ()), l, ()) c d_1 → True ∧ ∃ l, Sa Ec d_1.1 l ∧ true = true ∧ N ((c.1, c.2.1, c.2.2.1, (), uAa .i64 (c.2.2.2.2.1.add 1), ()), l, ())) ∧ True) (True ∧ ∃ l, Sa Ec m l ∧ true = true ∧ R0 ((d, a, b, (), i, ()), m, ()) () (l, ()))) := by kernel_rfl
def isiInv : isiZ → Prop := fun ((d, a, b, (), i, ()), m, ()) => ∃ A B I : Nat, a = A ∧ b = B ∧ i = I ∧ A < I ∧ B ≤ m.length ∧ d.1 = m.length ∧ m.length ≤ 1000000
def isiMu : isiZ → Nat := fun ((d, a, b, (), i, ()), m, ()) => b.toNat - i.toNat
def isiR0 : isiZ → (Unit) → uBc → Prop := fun ((d, a, b, (), i, ()), m, ()) _ (m2, _) => m2.length = m.length ∧ Stab.InsO ltC m a.toNat i.toNat b.toNat m2 ∧ (b.toNat ≤ i.toNat → m2 = m)
noncomputable def isiC : uB5 := uC9 1 isiFs (isiAlts isiR0) isiInv
theorem isiStep : uA3 PP (KLS [(45, cmpcK)] [(67, [(4, isjC)])] 54) 100 67 53 (uAd PP 67 1) 1 false isiFs (isiAlts isiR0) isiInv isiMu ⟨_, _, isiSl, isiBl, fun x y => (x, y)⟩ := by
 intro x y hz
 obtain ⟨d, a, b, _, i, _⟩ := x
 obtain ⟨m, _⟩ := y
 refine (isiForm d a b i m _ _).mpr ?_
 obtain ⟨A, B, I, rfl, rfl, rfl, h1, h2, hd, hm⟩ := hz
 rw [uAe]
 split
 ·rename_i h
  refine ⟨isjOk, trivial, trivial, m, rfl, (by trivial), ⟨A, I, rfl, rfl, by omega, by omega, hd, hm⟩, fun c d1 hr => ?_, trivial⟩
  obtain ⟨dd, a2, b2, _, i2, _⟩ := c
  obtain ⟨m2, _⟩ := d1
  obtain ⟨r1, r2, r3, r4, r5, r6⟩ := hr
  obtain rfl : a2 = (A : Int) := r2
  obtain rfl : b2 = (B : Int) := r3
  obtain rfl : i2 = (I : Int) := r4
  replace r5 : m2.length = m.length := r5
  have e1 : uAa .i64 (Int.add (I : Int) 1) = ((I + 1 : Nat) : Int) := by rw [wadd (by omega) (by omega)]; omega
  simp only [e1]
  exact ⟨trivial, m2, rfl, (by trivial), ⟨A, B, I + 1, rfl, rfl, rfl, by omega, by omega, r1, by omega⟩, by show B - (I + 1) < B - I; omega, fun _ d3 hr3 => ⟨hr3.1.trans r5, Stab.InsO.step weakC (by show I < B; omega) r6 hr3.2.1, fun hh => absurd (show B ≤ I from hh) (by omega)⟩, trivial⟩
 ·rename_i h
  exact ⟨trivial, m, rfl, (by trivial), rfl, Stab.InsO.zero (by show B ≤ I; omega), fun _ => rfl⟩
theorem isiOk : uAs PP 67 53 (.loop (uAd PP 67 1)) (isiC) := uBf isiMu  mixed (uCn (uAi cmpcCc (uAq))) rfl (uAo isiStep (uAx))
abbrev insZ := (qStRt2 × Int × Int × Unit × Unit) × uBc
noncomputable def insT : Tel (qStRt2 × Int × Int × Unit × Unit) := .cons 0 (.slq 0 4) (.ji 1 (.ji 2 (.cons 3 (.fnp 45 []) (.nil))))
noncomputable def insBl : BTel uBc := .cons (.rows Ec 54) (.nil)
noncomputable def insRes (R0 : insZ → (Unit) → uBc → Prop) : List (Res insZ) := [⟨Unit, uBc, .nil, .cons (.rows Ec 54) (.nil), R0⟩]
theorem insFn (d : Nat × Nat) (a b : Int) (m : List Cd) (R0 : insZ → (Unit) → uBc → Prop) : (uA2 PP (runW PP (KLS [(45, cmpcK)] [(67, [(1, isiC)])] 54) 200) 67 (insT.cells id (d, a, b, (), ())) (stL false (insBl.obs id (m, ()))) (fun v st => uA1 1 ((d, a, b, (), ()), m, ()) v st (insRes R0))) = ( uAs PP 67 53 (uAd PP 67 1).loop isiC ∧ True ∧ True ∧ ∃ l, Sa Ec m l ∧ true = true ∧ isiInv ((d, a, b, (), uAa .i64 (a.add 1), ()), l, ()) ∧ (∀ c d_1, isiR0 ((d, a, b, (), uAa .i64 (a.add 1), ()), l, ()) c d_1 → ∃ l, Sa Ec d_1.1 l ∧ true = true ∧ R0 ((d, a, b, (), ()), m, ()) () (l, ())) ∧ True) := by kernel_rfl
def insPre : insZ → Prop := fun ((d, a, b, (), ()), m, ()) => ∃ A B : Nat, a = A ∧ b = B ∧ A ≤ B ∧ B ≤ m.length ∧ d.1 = m.length ∧ m.length ≤ 1000000
def insR0 : insZ → (Unit) → uBc → Prop := fun ((d, a, b, (), ()), m, ()) _ (m2, _) => m2.length = m.length ∧ Stab.SortR ltC m a.toNat b.toNat m2
noncomputable def insK : uA6 := uD4 1 insT insBl insPre (insRes insR0)
theorem insStep (z : insZ) (hp : insPre z) : uA2 PP (runW PP (KLS [(45, cmpcK)] [(67, [(1, isiC)])] 54) 200) 67 (insT.cells id z.1) (stL false (insBl.obs id z.2)) (fun v st => uA1 1 z v st (insRes insR0)) := by
 obtain ⟨⟨d, a, b, _, _⟩, ⟨m, _⟩⟩ := z
 refine (insFn d a b m _).mpr ?_
 obtain ⟨A, B, rfl, rfl, h1, h2, hd, hm⟩ := hp
 have e1 : uAa .i64 (Int.add (A : Int) 1) = ((A + 1 : Nat) : Int) := by rw [wadd (by omega) (by omega)]; omega
 simp only [e1]
 refine ⟨isiOk, trivial, trivial, m, rfl, (by trivial), ⟨A, B, A + 1, rfl, rfl, rfl, by omega, h2, hd, hm⟩, fun _ d1 hr => ?_, trivial⟩
 obtain ⟨m2, _⟩ := d1
 obtain ⟨r1, r2, r3⟩ := hr
 refine ⟨m2, rfl, (by trivial), r1, ?_⟩
 rcases Nat.lt_or_ge A B with hab | hab
 ·exact Stab.SortR.ofO hab r2
 ·obtain rfl : m2 = m := r3 (show B ≤ A + 1 by omega)
  exact Stab.SortR.triv (show B ≤ A + 1 by omega)
theorem insCc : CcOk PP 67 insK := uB4 mixed (uCn (uAi cmpcCc (uAq))) rfl insStep
theorem mid_eq {I J : Nat} (h : I + J ≤ 4000000) : uAa .i64 (shrV .u64 (uAa .u64 (uAa .i64 (Int.add (I : Int) (J : Int)))) 1) = (((I + J) / 2 : Nat) : Int) := by
 rw [wadd (by omega) (by omega), wu64 (by omega) (by omega)]
 have e1 : shrV .u64 ((I : Int) + (J : Int)) 1 = (((I + J) / 2 : Nat) : Int) := by
  show Int.fdiv ((I : Int) + (J : Int)) 2 = _
  rw [Int.fdiv_eq_ediv_of_nonneg _ (by decide)]; omega
 rw [e1, w64 (by omega) (by omega)]
abbrev qStRt1 := qStRt2 × Int × Int × Int × Unit × Int × Int × Unit
abbrev sm1Z := qStRt1 × uBc
noncomputable def sm1Sl : Tel qStRt1 := .cons 0 (.slq 0 4) (.ji 1 (.ji 2 (.ji 3 (.cons 4 (.fnp 45 []) (.ji 10 (.ji 11 (.nil)))))))
noncomputable def sm1Bl : BTel uBc := .cons (.rows Ec 54) (.nil)
noncomputable def sm1Fs : List (LForm sm1Z) := [⟨_, _, sm1Sl, sm1Bl, fun x y => (x, y)⟩]
abbrev qStR3 := qStRt2 × Int × Int × Int × Unit × Int × Unit
noncomputable def sm1Alts (R0 : sm1Z → qStR3 → uBc → Prop) : List (Alt sm1Z) := [⟨.exit 0, qStR3, uBc, .cons 0 (.slq 0 4) (.ji 1 (.ji 2 (.ji 3 (.cons 4 (.fnp 45 []) (.ji 10 (.nil)))))), .cons (.rows Ec 54) (.nil), R0⟩]
theorem sm1Form (d : Nat × Nat) (a p b i j : Int) (m : List Cd) (N : sm1Z → Prop) (R0 : sm1Z → qStR3 → uBc → Prop) : ((runW PP qStRk0 100).code none 68 220 (uAd PP 68 3) (mkT (sm1Sl.av id (d, a, p, b, (), i, j, ()))) [] (stL false (sm1Bl.obs id (m, ()))) (uCh 1 sm1Fs (sm1Alts R0) ((d, a, p, b, (), i, j, ()), m, ()) N)) = ( ifp (!uAf j i) ((0 : Int) ≤ 1 ∧ uAp (uAa .i64 (shrV .u64 (uAa .u64 (uAa .i64 (i.add j))) 1)) d.1 ∧ ∃ x : Int, nth ((Nat.add 0 ((uAc (uAa .i64 (shrV .u64 (uAa .u64 (uAa .i64 (i.add j))) 1))).mul 4)).add 0) (m.flatMap Ec.f) = some (I64 x) ∧ ∃ x_1 : Int, nth ((Nat.add 0 ((uAc (uAa .i64 (shrV .u64 (uAa .u64 (uAa .i64 (i.add j))) 1))).mul 4)).add 1) (m.flatMap Ec.f) = some (I64 x_1) ∧ ∃ x_2 : Int, nth ((Nat.add 0 ((uAc (uAa .i64 (shrV .u64 (uAa .u64 (uAa .i64 (i.add j))) 1))).mul 4)).add 2) (m.flatMap Ec.f) = some (I64 x_2) ∧ ∃ x_3 : Int, nth ((Nat.add 0 ((uAc (uAa .i64 (shrV .u64 (uAa .u64 (uAa .i64 (i.add j))) 1))).mul 4)).add 3) (m.flatMap Ec.f) = some (I64 x_3) ∧ uAp a d.1 ∧ ∃ x_4 : Int, nth ((Nat.add 0 ((uAc a).mul 4)).add 0) (m.flatMap Ec.f) = some (I64 x_4) ∧ ∃ x_5 : Int, nth ((Nat.add 0 ((uAc a).mul 4)).add 1) (m.flatMap Ec.f) = some (I64 x_5) ∧ ∃ x_6 : Int, nth ((Nat.add 0 ((uAc a).mul 4)).add 2) (m.flatMap Ec.f) = some (I64 x_6) ∧ ∃ x_7 : Int, nth ((Nat.add 0 ((uAc a).mul 4)).add 3) (m.flatMap Ec.f) = some (I64 x_7) ∧ ∃ a_1 : Cd, Ag4 x x_1 x_2 x_3 a_1 ∧ ∃ a_2 : Cd, Ag4 x_4 x_5 x_6 x_7 a_2 ∧ cmpcPre (a_1, a_2, ()) ∧ ifp (!uAf 0 (cmpcV a_1 a_2)) (T3 <| ∃ l, Sa Ec m l ∧ true = true ∧ N ((d, a, p, b, (), uAa .i64 ((uAa .i64 (shrV .u64 (uAa .u64 (uAa .i64 (i.add j))) 1)).add 1), j, ()), l, ())) (T3 <| ∃ l, Sa Ec m l ∧ true = true ∧ N ((d, a, p, b, (), i, uAa .i64 (shrV .u64 (uAa .u64 (uAa .i64 (i.add j))) 1), ()), l, ()))) (True ∧ ∃ l, Sa Ec m l ∧ true = true ∧ R0 ((d, a, p, b, (), i, j, ()), m, ()) (d, a, p, b, (), i, ()) (l, ()))) := by kernel_rfl
def sm1Inv : sm1Z → Prop := fun ((d, a, p, b, (), i, j, ()), m, ()) => ∃ A I J : Nat, a = A ∧ i = I ∧ j = J ∧ A < m.length ∧ I ≤ J ∧ J ≤ m.length ∧ d.1 = m.length ∧ m.length ≤ 1000000
def sm1Mu : sm1Z → Nat := fun ((d, a, p, b, (), i, j, ()), m, ()) => j.toNat - i.toNat
def sm1R0 : sm1Z → qStR3 → uBc → Prop := fun ((d, a, p, b, (), i, j, ()), m, ()) (d2, a2, p2, b2, _, i2, _) (m2, _) => d2 = d ∧ a2 = a ∧ p2 = p ∧ b2 = b ∧ m2 = m ∧ ∃ r : Nat, i2 = r ∧ Stab.BS (fun h => Stab.at_ ltC m h a.toNat) i.toNat j.toNat r
noncomputable def sm1C : uB5 := uC9 1 sm1Fs (sm1Alts sm1R0) sm1Inv
theorem sm1Step : uA3 PP qStRk0 100 68 220 (uAd PP 68 3) 1 false sm1Fs (sm1Alts sm1R0) sm1Inv sm1Mu ⟨_, _, sm1Sl, sm1Bl, fun x y => (x, y)⟩ := by
 intro x y hz
 obtain ⟨d, a, p, b, _, i, j, _⟩ := x
 obtain ⟨m, _⟩ := y
 refine (sm1Form d a p b i j m _ _).mpr ?_
 obtain ⟨A, I, J, rfl, rfl, rfl, hA, hIJ, hJ, hd, hm⟩ := hz
 obtain ⟨d1, d2⟩ := d
 obtain rfl : d1 = m.length := hd
 rw [uAe]
 split
 ·rename_i h
  have eh := mid_eq (I := I) (J := J) (by omega)
  obtain ⟨H, hH⟩ : ∃ H, H = (I + J) / 2 := ⟨_, rfl⟩
  rw [← hH] at eh
  have hHl : H < m.length := by omega
  have e1 : uAa .i64 (Int.add (H : Int) 1) = ((H + 1 : Nat) : Int) := by rw [wadd (by omega) (by omega)]; omega
  simp only [eh, uAt]
  refine ⟨by decide, uAk hHl, _, uCs hHl, _, uCr hHl, _, uCq hHl, _, uCp hHl, uAk hA, _, uCs hA, _, uCr hA, _, uCq hA, _, uCp hA, m[H], rfl, m[A], rfl, trivial, ?_⟩
  rw [uAe]
  split
  ·rename_i hlt
   have hlt2 : ltC m[H] m[A] = true := by rw [ltC]; simpa using hlt
   simp only [e1]
   refine ⟨trivial, trivial, trivial, m, rfl, (by trivial), ⟨A, H + 1, J, rfl, rfl, rfl, hA, by omega, hJ, rfl, hm⟩, by show J - (H + 1) < J - I; omega, fun c d2 hr => ?_, trivial⟩
   obtain ⟨dd, a2, p2, b2, _, i2, _⟩ := c
   obtain ⟨m2, _⟩ := d2
   obtain ⟨r1, r2, r3, r4, r5, r, r6, r7⟩ := hr
   exact ⟨r1, r2, r3, r4, r5, r, r6, Stab.BS.up (h := H) (by show I ≤ H; omega) (by show Stab.at_ ltC m H A = _; rw [Stab.at_eq hHl hA]; exact hlt2) r7⟩
  ·rename_i hlt
   have hlt2 : ltC m[H] m[A] = false := by rw [ltC]; simpa using hlt
   refine ⟨trivial, trivial, trivial, m, rfl, (by trivial), ⟨A, I, H, rfl, rfl, rfl, hA, by omega, by omega, rfl, hm⟩, by show H - I < J - I; omega, fun c d2 hr => ?_, trivial⟩
   obtain ⟨dd, a2, p2, b2, _, i2, _⟩ := c
   obtain ⟨m2, _⟩ := d2
   obtain ⟨r1, r2, r3, r4, r5, r, r6, r7⟩ := hr
   exact ⟨r1, r2, r3, r4, r5, r, r6, Stab.BS.down (h := H) (by show H ≤ J; omega) (by show Stab.at_ ltC m H A = _; rw [Stab.at_eq hHl hA]; exact hlt2) r7⟩
 ·rename_i h
  obtain rfl : I = J := by omega
  exact ⟨trivial, m, rfl, (by trivial), rfl, rfl, rfl, rfl, rfl, I, rfl, Stab.BS.done _ _⟩
theorem sm1Ok : uAs PP 68 220 (.loop (uAd PP 68 3)) (sm1C) := uBf sm1Mu  mixed (uCn (uAi cmpcCc (uAq))) rfl (uAo sm1Step (uAx))
abbrev qStRt4 := qStRt2 × Int × Int × Unit
abbrev sm2Z := qStRt4 × uBc
noncomputable def sm2Sl : Tel qStRt4 := .cons 0 (.slq 0 4) (.ji 10 (.ji 13 (.nil)))
noncomputable def sm2Bl : BTel uBc := .cons (.rows Ec 54) (.nil)
noncomputable def sm2Fs : List (LForm sm2Z) := [⟨_, _, sm2Sl, sm2Bl, fun x y => (x, y)⟩]
noncomputable def sm2Alts (R0 : sm2Z → (Unit) → uBc → Prop) : List (Alt sm2Z) := [⟨.exit 2, Unit, uBc, .nil, .cons (.rows Ec 54) (.nil), R0⟩]
theorem sm2Form (d : Nat × Nat) (i k : Int) (m : List Cd) (N : sm2Z → Prop) (R0 : sm2Z → (Unit) → uBc → Prop) : ((runW PP qStRk1 100).code none 68 220 (uAd PP 68 9) (mkT (sm2Sl.av id (d, i, k, ()))) [] (stL false (sm2Bl.obs id (m, ()))) (uCh 1 sm2Fs (sm2Alts R0) ((d, i, k, ()), m, ()) N)) = ( ifp (!uAf (uAa .i64 (i.sub 1)) k) (uAp (uAa .i64 (k.add 1)) d.1 ∧ ∃ x : Int, nth ((Nat.add 0 ((uAc (uAa .i64 (k.add 1))).mul 4)).add 0) (m.flatMap Ec.f) = some (I64 x) ∧ ∃ x_1 : Int, nth ((Nat.add 0 ((uAc (uAa .i64 (k.add 1))).mul 4)).add 1) (m.flatMap Ec.f) = some (I64 x_1) ∧ ∃ x_2 : Int, nth ((Nat.add 0 ((uAc (uAa .i64 (k.add 1))).mul 4)).add 2) (m.flatMap Ec.f) = some (I64 x_2) ∧ ∃ x_3 : Int, nth ((Nat.add 0 ((uAc (uAa .i64 (k.add 1))).mul 4)).add 3) (m.flatMap Ec.f) = some (I64 x_3) ∧ uAp k d.1 ∧ ∃ x_4 : Int, nth ((Nat.add 0 ((uAc k).mul 4)).add 0) (m.flatMap Ec.f) = some (I64 x_4) ∧ ∃ x_5 : Int, nth ((Nat.add 0 ((uAc k).mul 4)).add 1) (m.flatMap Ec.f) = some (I64 x_5) ∧ ∃ x_6 : Int, nth ((Nat.add 0 ((uAc k).mul 4)).add 2) (m.flatMap Ec.f) = some (I64 x_6) ∧ ∃ x_7 : Int, nth ((Nat.add 0 ((uAc k).mul 4)).add 3) (m.flatMap Ec.f) = some (I64 x_7) ∧ uAp k d.1 ∧ (Nat.add 0 ((uAc k).mul 4)).add 4 ≤ (m.flatMap Ec.f).length ∧ uAp (uAa .i64 (k.add 1)) d.1 ∧ (Nat.add 0 ((uAc (uAa .i64 (k.add 1))).mul 4)).add 4 ≤ (setAt (Nat.add 0 ((uAc k).mul 4)) [I64 x, I64 x_1, I64 x_2, I64 x_3] (m.flatMap Ec.f)).length ∧ True ∧ True ∧ True ∧ ∃ (l : List Cd), setAt (Nat.add 0 ((uAc (uAa .i64 (k.add 1))).mul 4)) [I64 x_4, I64 x_5, I64 x_6, I64 x_7] (setAt (Nat.add 0 ((uAc k).mul 4)) [I64 x, I64 x_1, I64 x_2, I64 x_3] (m.flatMap Ec.f)) = l.flatMap Ec.f ∧ true = true ∧ N ((d, i, uAa .i64 (k.add 1), ()), l, ())) (True ∧ ∃ l, Sa Ec m l ∧ true = true ∧ R0 ((d, i, k, ()), m, ()) () (l, ()))) := by kernel_rfl
def sm2Inv : sm2Z → Prop := fun ((d, i, k, ()), m, ()) => ∃ I K : Nat, i = I ∧ k = K ∧ 1 ≤ I ∧ I ≤ m.length ∧ d.1 = m.length ∧ m.length ≤ 1000000
def sm2Mu : sm2Z → Nat := fun ((d, i, k, ()), m, ()) => i.toNat - k.toNat
def sm2R0 : sm2Z → (Unit) → uBc → Prop := fun ((d, i, k, ()), m, ()) _ (m2, _) => m2.length = m.length ∧ Stab.MoveR m k.toNat (i.toNat - 1) m2
noncomputable def sm2C : uB5 := uC9 1 sm2Fs (sm2Alts sm2R0) sm2Inv
theorem sm2Step : uA3 PP qStRk1 100 68 220 (uAd PP 68 9) 1 false sm2Fs (sm2Alts sm2R0) sm2Inv sm2Mu ⟨_, _, sm2Sl, sm2Bl, fun x y => (x, y)⟩ := by
 intro x y hz
 obtain ⟨d, i, k, _⟩ := x
 obtain ⟨m, _⟩ := y
 refine (sm2Form d i k m _ _).mpr ?_
 obtain ⟨I, K, rfl, rfl, h1, h2, hd, hm⟩ := hz
 obtain ⟨d1, d2⟩ := d
 obtain rfl : d1 = m.length := hd
 have e0 : uAa .i64 (Int.sub (I : Int) 1) = ((I - 1 : Nat) : Int) := by rw [wsub (by omega) (by omega)]; omega
 rw [e0, uAe]
 split
 ·rename_i h
  have hk : K < m.length := by omega
  have hk1 : K + 1 < m.length := by omega
  have e1 : uAa .i64 (Int.add (K : Int) 1) = ((K + 1 : Nat) : Int) := by rw [wadd (by omega) (by omega)]; omega
  have hl := Stab.sw_len m K (K + 1)
  simp only [e1, uAt]
  exact ⟨uAk hk1, _, uCs hk1, _, uCr hk1, _, uCq hk1, _, uCp hk1, uAk hk, _, uCs hk, _, uCr hk, _, uCq hk, _, uCp hk, uAk hk, cd_fit hk rfl, uAk hk1, by rw [cd_set (x := m[K + 1]) hk]; exact cd_fit hk1 (by simp), trivial, trivial, trivial, Stab.sw m K (K + 1), cd_sw hk hk1, (by trivial), ⟨I, K + 1, rfl, rfl, h1, by omega, hl.symm, by omega⟩, by show I - (K + 1) < I - K; omega, fun _ d2 hr => ⟨hr.1.trans hl, Stab.MoveR.step (by show K < I - 1; omega) hr.2⟩, trivial⟩
 ·rename_i h
  exact ⟨trivial, m, rfl, (by trivial), rfl, Stab.MoveR.zero (by show I - 1 ≤ K; omega)⟩
theorem sm2Ok : uAs PP 68 220 (.loop (uAd PP 68 9)) (sm2C) := uBf sm2Mu  mixed (uCn (uAq)) rfl (uAo sm2Step (uAx))
abbrev sm3Z := qStRt1 × uBc
noncomputable def sm3Sl : Tel qStRt1 := .cons 0 (.slq 0 4) (.ji 1 (.ji 2 (.ji 3 (.cons 4 (.fnp 45 []) (.ji 14 (.ji 15 (.nil)))))))
noncomputable def sm3Bl : BTel uBc := .cons (.rows Ec 54) (.nil)
noncomputable def sm3Fs : List (LForm sm3Z) := [⟨_, _, sm3Sl, sm3Bl, fun x y => (x, y)⟩]
noncomputable def sm3Alts (R0 : sm3Z → qStR3 → uBc → Prop) : List (Alt sm3Z) := [⟨.exit 4, qStR3, uBc, .cons 0 (.slq 0 4) (.ji 1 (.ji 2 (.ji 3 (.cons 4 (.fnp 45 []) (.ji 14 (.nil)))))), .cons (.rows Ec 54) (.nil), R0⟩]
theorem sm3Form (d : Nat × Nat) (a p b i j : Int) (m : List Cd) (N : sm3Z → Prop) (R0 : sm3Z → qStR3 → uBc → Prop) : ((runW PP qStRk0 100).code none 68 220 (uAd PP 68 15) (mkT (sm3Sl.av id (d, a, p, b, (), i, j, ()))) [] (stL false (sm3Bl.obs id (m, ()))) (uCh 1 sm3Fs (sm3Alts R0) ((d, a, p, b, (), i, j, ()), m, ()) N)) = ( ifp (!uAf j i) ((0 : Int) ≤ 1 ∧ uAp p d.1 ∧ ∃ x : Int, nth ((Nat.add 0 ((uAc p).mul 4)).add 0) (m.flatMap Ec.f) = some (I64 x) ∧ ∃ x_1 : Int, nth ((Nat.add 0 ((uAc p).mul 4)).add 1) (m.flatMap Ec.f) = some (I64 x_1) ∧ ∃ x_2 : Int, nth ((Nat.add 0 ((uAc p).mul 4)).add 2) (m.flatMap Ec.f) = some (I64 x_2) ∧ ∃ x_3 : Int, nth ((Nat.add 0 ((uAc p).mul 4)).add 3) (m.flatMap Ec.f) = some (I64 x_3) ∧ uAp (uAa .i64 (shrV .u64 (uAa .u64 (uAa .i64 (i.add j))) 1)) d.1 ∧ ∃ x_4 : Int, nth ((Nat.add 0 ((uAc (uAa .i64 (shrV .u64 (uAa .u64 (uAa .i64 (i.add j))) 1))).mul 4)).add 0) (m.flatMap Ec.f) = some (I64 x_4) ∧ ∃ x_5 : Int, nth ((Nat.add 0 ((uAc (uAa .i64 (shrV .u64 (uAa .u64 (uAa .i64 (i.add j))) 1))).mul 4)).add 1) (m.flatMap Ec.f) = some (I64 x_5) ∧ ∃ x_6 : Int, nth ((Nat.add 0 ((uAc (uAa .i64 (shrV .u64 (uAa .u64 (uAa .i64 (i.add j))) 1))).mul 4)).add 2) (m.flatMap Ec.f) = some (I64 x_6) ∧ ∃ x_7 : Int, nth ((Nat.add 0 ((uAc (uAa .i64 (shrV .u64 (uAa .u64 (uAa .i64 (i.add j))) 1))).mul 4)).add 3) (m.flatMap Ec.f) = some (I64 x_7) ∧ ∃ a_1 : Cd, Ag4 x x_1 x_2 x_3 a_1 ∧ ∃ a_2 : Cd, Ag4 x_4 x_5 x_6 x_7 a_2 ∧ cmpcPre (a_1, a_2, ()) ∧ ifp (!uAf 0 (cmpcV a_1 a_2)) (T3 <| ∃ l, Sa Ec m l ∧ true = true ∧ N ((d, a, p, b, (), i, uAa .i64 (shrV .u64 (uAa .u64 (uAa .i64 (i.add j))) 1), ()), l, ())) (T3 <| ∃ l, Sa Ec m l ∧ true = true ∧ N ((d, a, p, b, (), uAa .i64 ((uAa .i64 (shrV .u64 (uAa .u64 (uAa .i64 (i.add j))) 1)).add 1), j, ()), l, ()))) (True ∧ ∃ l, Sa Ec m l ∧ true = true ∧ R0 ((d, a, p, b, (), i, j, ()), m, ()) (d, a, p, b, (), i, ()) (l, ()))) := by kernel_rfl
def sm3Inv : sm3Z → Prop := fun ((d, a, p, b, (), i, j, ()), m, ()) => ∃ M I J : Nat, p = M ∧ i = I ∧ j = J ∧ M < m.length ∧ I ≤ J ∧ J ≤ m.length ∧ d.1 = m.length ∧ m.length ≤ 1000000
def sm3Mu : sm3Z → Nat := fun ((d, a, p, b, (), i, j, ()), m, ()) => j.toNat - i.toNat
def sm3R0 : sm3Z → qStR3 → uBc → Prop := fun ((d, a, p, b, (), i, j, ()), m, ()) (d2, a2, p2, b2, _, i2, _) (m2, _) => d2 = d ∧ a2 = a ∧ p2 = p ∧ b2 = b ∧ m2 = m ∧ ∃ r : Nat, i2 = r ∧ Stab.BS (fun h => !Stab.at_ ltC m p.toNat h) i.toNat j.toNat r
noncomputable def sm3C : uB5 := uC9 1 sm3Fs (sm3Alts sm3R0) sm3Inv
theorem sm3Step : uA3 PP qStRk0 100 68 220 (uAd PP 68 15) 1 false sm3Fs (sm3Alts sm3R0) sm3Inv sm3Mu ⟨_, _, sm3Sl, sm3Bl, fun x y => (x, y)⟩ := by
 intro x y hz
 obtain ⟨d, a, p, b, _, i, j, _⟩ := x
 obtain ⟨m, _⟩ := y
 refine (sm3Form d a p b i j m _ _).mpr ?_
 obtain ⟨M, I, J, rfl, rfl, rfl, hM, hIJ, hJ, hd, hm⟩ := hz
 obtain ⟨d1, d2⟩ := d
 obtain rfl : d1 = m.length := hd
 rw [uAe]
 split
 ·rename_i h
  have eh := mid_eq (I := I) (J := J) (by omega)
  obtain ⟨H, hH⟩ : ∃ H, H = (I + J) / 2 := ⟨_, rfl⟩
  rw [← hH] at eh
  have hHl : H < m.length := by omega
  have e1 : uAa .i64 (Int.add (H : Int) 1) = ((H + 1 : Nat) : Int) := by rw [wadd (by omega) (by omega)]; omega
  simp only [eh, uAt]
  refine ⟨by decide, uAk hM, _, uCs hM, _, uCr hM, _, uCq hM, _, uCp hM, uAk hHl, _, uCs hHl, _, uCr hHl, _, uCq hHl, _, uCp hHl, m[M], rfl, m[H], rfl, trivial, ?_⟩
  rw [uAe]
  split
  ·rename_i hlt
   have hlt2 : ltC m[M] m[H] = true := by rw [ltC]; simpa using hlt
   refine ⟨trivial, trivial, trivial, m, rfl, (by trivial), ⟨M, I, H, rfl, rfl, rfl, hM, by omega, by omega, rfl, hm⟩, by show H - I < J - I; omega, fun c d2 hr => ?_, trivial⟩
   obtain ⟨dd, a2, p2, b2, _, i2, _⟩ := c
   obtain ⟨m2, _⟩ := d2
   obtain ⟨r1, r2, r3, r4, r5, r, r6, r7⟩ := hr
   exact ⟨r1, r2, r3, r4, r5, r, r6, Stab.BS.down (h := H) (by show H ≤ J; omega) (by show (!Stab.at_ ltC m M H) = _; rw [Stab.at_eq hM hHl, hlt2]; rfl) r7⟩
  ·rename_i hlt
   have hlt2 : ltC m[M] m[H] = false := by rw [ltC]; simpa using hlt
   simp only [e1]
   refine ⟨trivial, trivial, trivial, m, rfl, (by trivial), ⟨M, H + 1, J, rfl, rfl, rfl, hM, by omega, hJ, rfl, hm⟩, by show J - (H + 1) < J - I; omega, fun c d2 hr => ?_, trivial⟩
   obtain ⟨dd, a2, p2, b2, _, i2, _⟩ := c
   obtain ⟨m2, _⟩ := d2
   obtain ⟨r1, r2, r3, r4, r5, r, r6, r7⟩ := hr
   exact ⟨r1, r2, r3, r4, r5, r, r6, Stab.BS.up (h := H) (by show I ≤ H; omega) (by show (!Stab.at_ ltC m M H) = _; rw [Stab.at_eq hM hHl, hlt2]; rfl) r7⟩
 ·rename_i h
  obtain rfl : I = J := by omega
  exact ⟨trivial, m, rfl, (by trivial), rfl, rfl, rfl, rfl, rfl, I, rfl, Stab.BS.done _ _⟩
theorem sm3Ok : uAs PP 68 220 (.loop (uAd PP 68 15)) (sm3C) := uBf sm3Mu  mixed (uCn (uAi cmpcCc (uAq))) rfl (uAo sm3Step (uAx))
abbrev sm4Z := qStRt4 × uBc
noncomputable def sm4Sl : Tel qStRt4 := .cons 0 (.slq 0 4) (.ji 14 (.ji 17 (.nil)))
noncomputable def sm4Bl : BTel uBc := .cons (.rows Ec 54) (.nil)
noncomputable def sm4Fs : List (LForm sm4Z) := [⟨_, _, sm4Sl, sm4Bl, fun x y => (x, y)⟩]
noncomputable def sm4Alts (R0 : sm4Z → (Unit) → uBc → Prop) : List (Alt sm4Z) := [⟨.exit 6, Unit, uBc, .nil, .cons (.rows Ec 54) (.nil), R0⟩]
theorem sm4Form (d : Nat × Nat) (i k : Int) (m : List Cd) (N : sm4Z → Prop) (R0 : sm4Z → (Unit) → uBc → Prop) : ((runW PP qStRk1 100).code none 68 220 (uAd PP 68 21) (mkT (sm4Sl.av id (d, i, k, ()))) [] (stL false (sm4Bl.obs id (m, ()))) (uCh 1 sm4Fs (sm4Alts R0) ((d, i, k, ()), m, ()) N)) = ( ifp (!uAf k i) (uAp (uAa .i64 (k.sub 1)) d.1 ∧ ∃ x : Int, nth ((Nat.add 0 ((uAc (uAa .i64 (k.sub 1))).mul 4)).add 0) (m.flatMap Ec.f) = some (I64 x) ∧ ∃ x_1 : Int, nth ((Nat.add 0 ((uAc (uAa .i64 (k.sub 1))).mul 4)).add 1) (m.flatMap Ec.f) = some (I64 x_1) ∧ ∃ x_2 : Int, nth ((Nat.add 0 ((uAc (uAa .i64 (k.sub 1))).mul 4)).add 2) (m.flatMap Ec.f) = some (I64 x_2) ∧ ∃ x_3 : Int, nth ((Nat.add 0 ((uAc (uAa .i64 (k.sub 1))).mul 4)).add 3) (m.flatMap Ec.f) = some (I64 x_3) ∧ uAp k d.1 ∧ ∃ x_4 : Int, nth ((Nat.add 0 ((uAc k).mul 4)).add 0) (m.flatMap Ec.f) = some (I64 x_4) ∧ ∃ x_5 : Int, nth ((Nat.add 0 ((uAc k).mul 4)).add 1) (m.flatMap Ec.f) = some (I64 x_5) ∧ ∃ x_6 : Int, nth ((Nat.add 0 ((uAc k).mul 4)).add 2) (m.flatMap Ec.f) = some (I64 x_6) ∧ ∃ x_7 : Int, nth ((Nat.add 0 ((uAc k).mul 4)).add 3) (m.flatMap Ec.f) = some (I64 x_7) ∧ uAp k d.1 ∧ (Nat.add 0 ((uAc k).mul 4)).add 4 ≤ (m.flatMap Ec.f).length ∧ uAp (uAa .i64 (k.sub 1)) d.1 ∧ (Nat.add 0 ((uAc (uAa .i64 (k.sub 1))).mul 4)).add 4 ≤ (setAt (Nat.add 0 ((uAc k).mul 4)) [I64 x, I64 x_1, I64 x_2, I64 x_3] (m.flatMap Ec.f)).length ∧ True ∧ True ∧ True ∧ ∃ (l : List Cd), setAt (Nat.add 0 ((uAc (uAa .i64 (k.sub 1))).mul 4)) [I64 x_4, I64 x_5, I64 x_6, I64 x_7] (setAt (Nat.add 0 ((uAc k).mul 4)) [I64 x, I64 x_1, I64 x_2, I64 x_3] (m.flatMap Ec.f)) = l.flatMap Ec.f ∧ true = true ∧ N ((d, i, uAa .i64 (k.sub 1), ()), l, ())) (True ∧ ∃ l, Sa Ec m l ∧ true = true ∧ R0 ((d, i, k, ()), m, ()) () (l, ()))) := by kernel_rfl
def sm4Inv : sm4Z → Prop := fun ((d, i, k, ()), m, ()) => ∃ I K : Nat, i = I ∧ k = K ∧ K < m.length ∧ d.1 = m.length ∧ m.length ≤ 1000000
def sm4Mu : sm4Z → Nat := fun ((d, i, k, ()), m, ()) => k.toNat
def sm4R0 : sm4Z → (Unit) → uBc → Prop := fun ((d, i, k, ()), m, ()) _ (m2, _) => m2.length = m.length ∧ Stab.MoveL m k.toNat i.toNat m2
noncomputable def sm4C : uB5 := uC9 1 sm4Fs (sm4Alts sm4R0) sm4Inv
theorem sm4Step : uA3 PP qStRk1 100 68 220 (uAd PP 68 21) 1 false sm4Fs (sm4Alts sm4R0) sm4Inv sm4Mu ⟨_, _, sm4Sl, sm4Bl, fun x y => (x, y)⟩ := by
 intro x y hz
 obtain ⟨d, i, k, _⟩ := x
 obtain ⟨m, _⟩ := y
 refine (sm4Form d i k m _ _).mpr ?_
 obtain ⟨I, K, rfl, rfl, h1, hd, hm⟩ := hz
 obtain ⟨d1, d2⟩ := d
 obtain rfl : d1 = m.length := hd
 rw [uAe]
 split
 ·rename_i h
  have hk1 : K - 1 < m.length := by omega
  have e1 : uAa .i64 (Int.sub (K : Int) 1) = ((K - 1 : Nat) : Int) := by rw [wsub (by omega) (by omega)]; omega
  have hl := Stab.sw_len m K (K - 1)
  simp only [e1, uAt]
  exact ⟨uAk hk1, _, uCs hk1, _, uCr hk1, _, uCq hk1, _, uCp hk1, uAk h1, _, uCs h1, _, uCr h1, _, uCq h1, _, uCp h1, uAk h1, cd_fit h1 rfl, uAk hk1, by rw [cd_set (x := m[K - 1]) h1]; exact cd_fit hk1 (by simp), trivial, trivial, trivial, Stab.sw m K (K - 1), cd_sw h1 hk1, (by trivial), ⟨I, K - 1, rfl, rfl, by omega, hl.symm, by omega⟩, by show K - 1 < K; omega, fun _ d2 hr => ⟨hr.1.trans hl, Stab.MoveL.step (by show I < K; omega) hr.2⟩, trivial⟩
 ·rename_i h
  exact ⟨trivial, m, rfl, (by trivial), rfl, Stab.MoveL.zero (by show K ≤ I; omega)⟩
theorem sm4Ok : uAs PP 68 220 (.loop (uAd PP 68 21)) (sm4C) := uBf sm4Mu  mixed (uCn (uAq)) rfl (uAo sm4Step (uAx))
abbrev qStRt3 := qStRt2 × Int × Int × Int × Unit × Int × Int × Int × Int × Int × Unit
abbrev sm5Z := qStRt3 × uBc
noncomputable def sm5Sl : Tel qStRt3 := .cons 0 (.slq 0 4) (.ji 1 (.ji 2 (.ji 3 (.cons 4 (.fnp 45 []) (.ji 18 (.ji 19 (.ji 20 (.ji 21 (.ji 22 (.nil))))))))))
noncomputable def sm5Bl : BTel uBc := .cons (.rows Ec 54) (.nil)
noncomputable def sm5Fs : List (LForm sm5Z) := [⟨_, _, sm5Sl, sm5Bl, fun x y => (x, y)⟩]
abbrev qStR4 := qStRt2 × Int × Int × Int × Unit × Int × Int × Int × Unit
noncomputable def sm5Alts (R0 : sm5Z → qStR4 → uBc → Prop) : List (Alt sm5Z) := [⟨.exit 8, qStR4, uBc, .cons 0 (.slq 0 4) (.ji 1 (.ji 2 (.ji 3 (.cons 4 (.fnp 45 []) (.ji 18 (.ji 19 (.ji 20 (.nil)))))))), .cons (.rows Ec 54) (.nil), R0⟩]
theorem sm5Form (d : Nat × Nat) (a p b mid n s r q : Int) (m : List Cd) (N : sm5Z → Prop) (R0 : sm5Z → qStR4 → uBc → Prop) : ((runW PP qStRk0 100).code none 68 220 (uAd PP 68 33) (mkT (sm5Sl.av id (d, a, p, b, (), mid, n, s, r, q, ()))) [] (stL false (sm5Bl.obs id (m, ()))) (uCh 1 sm5Fs (sm5Alts R0) ((d, a, p, b, (), mid, n, s, r, q, ()), m, ()) N)) = ( ifp (!uAf r s) ((0 : Int) ≤ 1 ∧ uAp (uAa .i64 (q.sub (uAa .i64 (shrV .u64 (uAa .u64 (uAa .i64 (s.add r))) 1)))) d.1 ∧ ∃ x : Int, nth ((Nat.add 0 ((uAc (uAa .i64 (q.sub (uAa .i64 (shrV .u64 (uAa .u64 (uAa .i64 (s.add r))) 1))))).mul 4)).add 0) (m.flatMap Ec.f) = some (I64 x) ∧ ∃ x_1 : Int, nth ((Nat.add 0 ((uAc (uAa .i64 (q.sub (uAa .i64 (shrV .u64 (uAa .u64 (uAa .i64 (s.add r))) 1))))).mul 4)).add 1) (m.flatMap Ec.f) = some (I64 x_1) ∧ ∃ x_2 : Int, nth ((Nat.add 0 ((uAc (uAa .i64 (q.sub (uAa .i64 (shrV .u64 (uAa .u64 (uAa .i64 (s.add r))) 1))))).mul 4)).add 2) (m.flatMap Ec.f) = some (I64 x_2) ∧ ∃ x_3 : Int, nth ((Nat.add 0 ((uAc (uAa .i64 (q.sub (uAa .i64 (shrV .u64 (uAa .u64 (uAa .i64 (s.add r))) 1))))).mul 4)).add 3) (m.flatMap Ec.f) = some (I64 x_3) ∧ uAp (uAa .i64 (shrV .u64 (uAa .u64 (uAa .i64 (s.add r))) 1)) d.1 ∧ ∃ x_4 : Int, nth ((Nat.add 0 ((uAc (uAa .i64 (shrV .u64 (uAa .u64 (uAa .i64 (s.add r))) 1))).mul 4)).add 0) (m.flatMap Ec.f) = some (I64 x_4) ∧ ∃ x_5 : Int, nth ((Nat.add 0 ((uAc (uAa .i64 (shrV .u64 (uAa .u64 (uAa .i64 (s.add r))) 1))).mul 4)).add 1) (m.flatMap Ec.f) = some (I64 x_5) ∧ ∃ x_6 : Int, nth ((Nat.add 0 ((uAc (uAa .i64 (shrV .u64 (uAa .u64 (uAa .i64 (s.add r))) 1))).mul 4)).add 2) (m.flatMap Ec.f) = some (I64 x_6) ∧ ∃ x_7 : Int, nth ((Nat.add 0 ((uAc (uAa .i64 (shrV .u64 (uAa .u64 (uAa .i64 (s.add r))) 1))).mul 4)).add 3) (m.flatMap Ec.f) = some (I64 x_7) ∧ ∃ a_1 : Cd, Ag4 x x_1 x_2 x_3 a_1 ∧ ∃ a_2 : Cd, Ag4 x_4 x_5 x_6 x_7 a_2 ∧ cmpcPre (a_1, a_2, ()) ∧ ifp (!uAf 0 (cmpcV a_1 a_2)) (T3 <| ∃ l, Sa Ec m l ∧ true = true ∧ N ((d, a, p, b, (), mid, n, s, uAa .i64 (shrV .u64 (uAa .u64 (uAa .i64 (s.add r))) 1), q, ()), l, ())) (T3 <| ∃ l, Sa Ec m l ∧ true = true ∧ N ((d, a, p, b, (), mid, n, uAa .i64 ((uAa .i64 (shrV .u64 (uAa .u64 (uAa .i64 (s.add r))) 1)).add 1), r, q, ()), l, ()))) (True ∧ ∃ l, Sa Ec m l ∧ true = true ∧ R0 ((d, a, p, b, (), mid, n, s, r, q, ()), m, ()) (d, a, p, b, (), mid, n, s, ()) (l, ()))) := by kernel_rfl
def sm5Inv : sm5Z → Prop := fun ((d, a, p, b, (), mid, n, s, r, q, ()), m, ()) => ∃ S R Q : Nat, s = S ∧ r = R ∧ q = Q ∧ S ≤ R ∧ R ≤ m.length ∧ Q < m.length + S ∧ R ≤ Q + 1 ∧ d.1 = m.length ∧ m.length ≤ 1000000
def sm5Mu : sm5Z → Nat := fun ((d, a, p, b, (), mid, n, s, r, q, ()), m, ()) => r.toNat - s.toNat
def sm5R0 : sm5Z → qStR4 → uBc → Prop := fun ((d, a, p, b, (), mid, n, s, r, q, ()), m, ()) (d2, a2, p2, b2, _, mid2, n2, s2, _) (m2, _) => d2 = d ∧ a2 = a ∧ p2 = p ∧ b2 = b ∧ mid2 = mid ∧ n2 = n ∧ m2 = m ∧ ∃ r2 : Nat, s2 = r2 ∧ Stab.BS (fun c => !Stab.at_ ltC m (q.toNat - c) c) s.toNat r.toNat r2
noncomputable def sm5C : uB5 := uC9 1 sm5Fs (sm5Alts sm5R0) sm5Inv
theorem sm5Step : uA3 PP qStRk0 100 68 220 (uAd PP 68 33) 1 false sm5Fs (sm5Alts sm5R0) sm5Inv sm5Mu ⟨_, _, sm5Sl, sm5Bl, fun x y => (x, y)⟩ := by
 intro x y hz
 obtain ⟨d, a, p, b, _, mid, n, s, r, q, _⟩ := x
 obtain ⟨m, _⟩ := y
 refine (sm5Form d a p b mid n s r q m _ _).mpr ?_
 obtain ⟨S, R, Q, rfl, rfl, rfl, hSR, hR, hQ, hRQ, hd, hm⟩ := hz
 obtain ⟨d1, d2⟩ := d
 obtain rfl : d1 = m.length := hd
 rw [uAe]
 split
 ·rename_i h
  have eh := mid_eq (I := S) (J := R) (by omega)
  obtain ⟨H, hH⟩ : ∃ H, H = (S + R) / 2 := ⟨_, rfl⟩
  rw [← hH] at eh
  have hHl : H < m.length := by omega
  have e1 : uAa .i64 (Int.add (H : Int) 1) = ((H + 1 : Nat) : Int) := by rw [wadd (by omega) (by omega)]; omega
  have e2 : uAa .i64 (Int.sub (Q : Int) (H : Int)) = ((Q - H : Nat) : Int) := by rw [wsub (by omega) (by omega)]; omega
  have hQH : Q - H < m.length := by omega
  simp only [eh, e2, uAt]
  refine ⟨by decide, uAk hQH, _, uCs hQH, _, uCr hQH, _, uCq hQH, _, uCp hQH, uAk hHl, _, uCs hHl, _, uCr hHl, _, uCq hHl, _, uCp hHl, m[Q - H], rfl, m[H], rfl, trivial, ?_⟩
  rw [uAe]
  split
  ·rename_i hlt
   have hlt2 : ltC m[Q - H] m[H] = true := by rw [ltC]; simpa using hlt
   refine ⟨trivial, trivial, trivial, m, rfl, (by trivial), ⟨S, H, Q, rfl, rfl, rfl, by omega, by omega, hQ, by omega, rfl, hm⟩, by show H - S < R - S; omega, fun c d2 hr => ?_, trivial⟩
   obtain ⟨dd, a2, p2, b2, _, mid2, n2, s2, _⟩ := c
   obtain ⟨m2, _⟩ := d2
   obtain ⟨r1, r2, r3, r4, r5, r8, r9, r, r6, r7⟩ := hr
   exact ⟨r1, r2, r3, r4, r5, r8, r9, r, r6, Stab.BS.down (h := H) (by show H ≤ R; omega) (by show (!Stab.at_ ltC m (Q - H) H) = _; rw [Stab.at_eq hQH hHl, hlt2]; rfl) r7⟩
  ·rename_i hlt
   have hlt2 : ltC m[Q - H] m[H] = false := by rw [ltC]; simpa using hlt
   simp only [e1]
   refine ⟨trivial, trivial, trivial, m, rfl, (by trivial), ⟨H + 1, R, Q, rfl, rfl, rfl, by omega, hR, by omega, hRQ, rfl, hm⟩, by show R - (H + 1) < R - S; omega, fun c d2 hr => ?_, trivial⟩
   obtain ⟨dd, a2, p2, b2, _, mid2, n2, s2, _⟩ := c
   obtain ⟨m2, _⟩ := d2
   obtain ⟨r1, r2, r3, r4, r5, r8, r9, r, r6, r7⟩ := hr
   exact ⟨r1, r2, r3, r4, r5, r8, r9, r, r6, Stab.BS.up (h := H) (by show S ≤ H; omega) (by show (!Stab.at_ ltC m (Q - H) H) = _; rw [Stab.at_eq hQH hHl, hlt2]; rfl) r7⟩
 ·rename_i h
  obtain rfl : S = R := by omega
  exact ⟨trivial, m, rfl, (by trivial), rfl, rfl, rfl, rfl, rfl, rfl, rfl, S, rfl, Stab.BS.done _ _⟩
theorem sm5Ok : uAs PP 68 220 (.loop (uAd PP 68 33)) (sm5C) := uBf sm5Mu  mixed (uCn (uAi cmpcCc (uAq))) rfl (uAo sm5Step (uAx))
abbrev symZ := qStRt0 × uBc
noncomputable def symT : Tel qStRt0 := .cons 0 (.slq 0 4) (.ji 1 (.ji 2 (.ji 3 (.cons 4 (.fnp 45 []) (.nil)))))
noncomputable def symBl : BTel uBc := .cons (.rows Ec 54) (.nil)
noncomputable def symRes (R0 : symZ → (Unit) → uBc → Prop) : List (Res symZ) := [⟨Unit, uBc, .nil, .cons (.rows Ec 54) (.nil), R0⟩]
def uCi (D : Nat) : symZ → Prop := fun ((d, a, p, b, (), ()), m, ()) => ∃ A M B2 : Nat, a = A ∧ p = M ∧ b = B2 ∧ A < M ∧ M < B2 ∧ B2 ≤ m.length ∧ B2 - A < D ∧ d.1 = m.length ∧ m.length ≤ 1000000
def uEz : symZ → (Unit) → uBc → Prop := fun ((d, a, p, b, (), ()), m, ()) _ (m2, _) => m2.length = m.length ∧ Stab.SymR ltC m a.toNat p.toNat b.toNat m2
noncomputable def symK (D : Nat) : uA6 := uD4 1 symT symBl (uCi D) (symRes uEz)
abbrev zsym (d : Nat × Nat) (a p b : Int) (m : List Cd) : symZ := ((d, a, p, b, (), ()), m, ())
theorem symFn (D : Nat) (d : Nat × Nat) (a p b : Int) (m : List Cd) (R0 : symZ → (Unit) → uBc → Prop) : (uA2 PP (runW PP (KLS [(45, cmpcK), (81, rotK), (68, symK D)] [(68, [(3, sm1C), (9, sm2C), (15, sm3C), (21, sm4C), (33, sm5C)])] 54) 200) 68 (symT.cells id (d, a, p, b, (), ())) (stL false (symBl.obs id (m, ()))) (fun v st => uA1 1 (zsym d a p b m) v st (symRes R0))) = ( ifp (uA0 (uAa .i64 (p.sub a)) 1) (uAs PP 68 220 (uAd PP 68 3).loop sm1C ∧ True ∧ True ∧ ∃ l, Sa Ec m l ∧ true = true ∧ sm1Inv ((d, a, p, b, (), p, b, ()), l, ()) ∧ (∀ c d_1, sm1R0 ((d, a, p, b, (), p, b, ()), l, ()) c d_1 → uAs PP 68 220 (uAd PP 68 9).loop sm2C ∧ True ∧ True ∧ ∃ l, Sa Ec d_1.1 l ∧ true = true ∧ sm2Inv ((c.1, c.2.2.2.2.2.1, c.2.1, ()), l, ()) ∧ (∀ c_1 d_2, sm2R0 ((c.1, c.2.2.2.2.2.1, c.2.1, ()), l, ()) c_1 d_2 → ∃ l, Sa Ec d_2.1 l ∧ true = true ∧ R0 (zsym d a p b m) () (l, ())) ∧ True) ∧ True) (ifp (uA0 (uAa .i64 (b.sub p)) 1) (uAs PP 68 220 (uAd PP 68 15).loop sm3C ∧ True ∧ True ∧ ∃ l, Sa Ec m l ∧ true = true ∧ sm3Inv ((d, a, p, b, (), a, p, ()), l, ()) ∧ (∀ c d_1, sm3R0 ((d, a, p, b, (), a, p, ()), l, ()) c d_1 → uAs PP 68 220 (uAd PP 68 21).loop sm4C ∧ True ∧ True ∧ ∃ l, Sa Ec d_1.1 l ∧ true = true ∧ sm4Inv ((c.1, c.2.2.2.2.2.1, c.2.2.1, ()), l, ()) ∧ (∀ c_1 d_2, sm4R0 ((c.1, c.2.2.2.2.2.1, c.2.2.1, ()), l, ()) c_1 d_2 → ∃ l, Sa Ec d_2.1 l ∧ true = true ∧ R0 (zsym d a p b m) () (l, ())) ∧ True) ∧ True) ((0 : Int) ≤ 1 ∧ ifp (!uAf p (uAa .i64 (shrV .u64 (uAa .u64 (uAa .i64 (a.add b))) 1))) (uAs PP 68 220 (uAd PP 68 33).loop sm5C ∧ True ∧ True ∧ ∃ l, Sa Ec m l ∧ true = true ∧ sm5Inv ((d, a, p, b, (), uAa .i64 (shrV .u64 (uAa .u64 (uAa .i64 (a.add b))) 1), uAa .i64 ((uAa .i64 (shrV .u64 (uAa .u64 (uAa .i64 (a.add b))) 1)).add p), uAa .i64 ((uAa .i64 ((uAa .i64 (shrV .u64 (uAa .u64 (uAa .i64 (a.add b))) 1)).add p)).sub b), uAa .i64 (shrV .u64 (uAa .u64 (uAa .i64 (a.add b))) 1), uAa .i64 ((uAa .i64 ((uAa .i64 (shrV .u64 (uAa .u64 (uAa .i64 (a.add b))) 1)).add p)).sub 1), ()), l, ()) ∧ (∀ c d_1, sm5R0 ((d, a, p, b, (), uAa .i64 (shrV .u64 (uAa .u64 (uAa .i64 (a.add b))) 1), uAa .i64 ((uAa .i64 (shrV .u64 (uAa .u64 (uAa .i64 (a.add b))) 1)).add p), uAa .i64 ((uAa .i64 ((uAa .i64 (shrV .u64 (uAa .u64 (uAa .i64 (a.add b))) 1)).add p)).sub b), uAa .i64 (shrV .u64 (uAa .u64 (uAa .i64 (a.add b))) 1), uAa .i64 ((uAa .i64 ((uAa .i64 (shrV .u64 (uAa .u64 (uAa .i64 (a.add b))) 1)).add p)).sub 1), ()), l, ()) c d_1 → ifp (!uAf c.2.2.1 c.2.2.2.2.2.2.2.1) (ifp (!uAf (uAa .i64 (c.2.2.2.2.2.2.1.sub c.2.2.2.2.2.2.2.1)) c.2.2.1) (∃ l, Sa Ec d_1.1 l ∧ true = true ∧ rotPre ((c.1, c.2.2.2.2.2.2.2.1, c.2.2.1, uAa .i64 (c.2.2.2.2.2.2.1.sub c.2.2.2.2.2.2.2.1), (), ()), l, ()) ∧ (∀ c_1 d_2, rotR0 ((c.1, c.2.2.2.2.2.2.2.1, c.2.2.1, uAa .i64 (c.2.2.2.2.2.2.1.sub c.2.2.2.2.2.2.2.1), (), ()), l, ()) c_1 d_2 → ifp (!uAf c.2.2.2.2.2.2.2.1 c.2.1) (ifp (!uAf c.2.2.2.2.2.1 c.2.2.2.2.2.2.2.1) (∃ l, Sa Ec d_2.1 l ∧ true = true ∧ uCi D ((c.1, c.2.1, c.2.2.2.2.2.2.2.1, c.2.2.2.2.2.1, (), ()), l, ()) ∧ (∀ c_2 d_3, uEz ((c.1, c.2.1, c.2.2.2.2.2.2.2.1, c.2.2.2.2.2.1, (), ()), l, ()) c_2 d_3 → ifp (!uAf (uAa .i64 (c.2.2.2.2.2.2.1.sub c.2.2.2.2.2.2.2.1)) c.2.2.2.2.2.1) (ifp (!uAf c.2.2.2.1 (uAa .i64 (c.2.2.2.2.2.2.1.sub c.2.2.2.2.2.2.2.1))) (∃ l, Sa Ec d_3.1 l ∧ true = true ∧ uCi D ((c.1, c.2.2.2.2.2.1, uAa .i64 (c.2.2.2.2.2.2.1.sub c.2.2.2.2.2.2.2.1), c.2.2.2.1, (), ()), l, ()) ∧ (∀ c_3 d_4, uEz ((c.1, c.2.2.2.2.2.1, uAa .i64 (c.2.2.2.2.2.2.1.sub c.2.2.2.2.2.2.2.1), c.2.2.2.1, (), ()), l, ()) c_3 d_4 → ∃ l, Sa Ec d_4.1 l ∧ true = true ∧ R0 (zsym d a p b m) () (l, ())) ∧ True) (∃ l, Sa Ec d_3.1 l ∧ true = true ∧ R0 (zsym d a p b m) () (l, ()))) (∃ l, Sa Ec d_3.1 l ∧ true = true ∧ R0 (zsym d a p b m) () (l, ()))) ∧ True) (ifp (!uAf (uAa .i64 (c.2.2.2.2.2.2.1.sub c.2.2.2.2.2.2.2.1)) c.2.2.2.2.2.1) (ifp (!uAf c.2.2.2.1 (uAa .i64 (c.2.2.2.2.2.2.1.sub c.2.2.2.2.2.2.2.1))) (∃ l, Sa Ec d_2.1 l ∧ true = true ∧ uCi D ((c.1, c.2.2.2.2.2.1, uAa .i64 (c.2.2.2.2.2.2.1.sub c.2.2.2.2.2.2.2.1), c.2.2.2.1, (), ()), l, ()) ∧ (∀ c_2 d_3, uEz ((c.1, c.2.2.2.2.2.1, uAa .i64 (c.2.2.2.2.2.2.1.sub c.2.2.2.2.2.2.2.1), c.2.2.2.1, (), ()), l, ()) c_2 d_3 → ∃ l, Sa Ec d_3.1 l ∧ true = true ∧ R0 (zsym d a p b m) () (l, ())) ∧ True) (∃ l, Sa Ec d_2.1 l ∧ true = true ∧ R0 (zsym d a p b m) () (l, ()))) (∃ l, Sa Ec d_2.1 l ∧ true = true ∧ R0 (zsym d a p b m) () (l, ())))) (ifp (!uAf (uAa .i64 (c.2.2.2.2.2.2.1.sub c.2.2.2.2.2.2.2.1)) c.2.2.2.2.2.1) (ifp (!uAf c.2.2.2.1 (uAa .i64 (c.2.2.2.2.2.2.1.sub c.2.2.2.2.2.2.2.1))) (∃ l, Sa Ec d_2.1 l ∧ true = true ∧ uCi D ((c.1, c.2.2.2.2.2.1, uAa .i64 (c.2.2.2.2.2.2.1.sub c.2.2.2.2.2.2.2.1), c.2.2.2.1, (), ()), l, ()) ∧ (∀ c_2 d_3, uEz ((c.1, c.2.2.2.2.2.1, uAa .i64 (c.2.2.2.2.2.2.1.sub c.2.2.2.2.2.2.2.1), c.2.2.2.1, (), ()), l, ()) c_2 d_3 → ∃ l, Sa Ec d_3.1 l ∧ true = true ∧ R0 (zsym d a p b m) () (l, ())) ∧ True) (∃ l, Sa Ec d_2.1 l ∧ true = true ∧ R0 (zsym d a p b m) () (l, ()))) (∃ l, Sa Ec d_2.1 l ∧ true = true ∧ R0 (zsym d a p b m) () (l, ())))) ∧ True) (ifp (!uAf c.2.2.2.2.2.2.2.1 c.2.1) (ifp (!uAf c.2.2.2.2.2.1 c.2.2.2.2.2.2.2.1) (∃ l, Sa Ec d_1.1 l ∧ true = true ∧ uCi D ((c.1, c.2.1, c.2.2.2.2.2.2.2.1, c.2.2.2.2.2.1, (), ()), l, ()) ∧ (∀ c_1 d_2, uEz ((c.1, c.2.1, c.2.2.2.2.2.2.2.1, c.2.2.2.2.2.1, (), ()), l, ()) c_1 d_2 → ifp (!uAf (uAa .i64 (c.2.2.2.2.2.2.1.sub c.2.2.2.2.2.2.2.1)) c.2.2.2.2.2.1) (ifp (!uAf c.2.2.2.1 (uAa .i64 (c.2.2.2.2.2.2.1.sub c.2.2.2.2.2.2.2.1))) (∃ l, Sa Ec d_2.1 l ∧ true = true ∧ uCi D ((c.1, c.2.2.2.2.2.1, uAa .i64 (c.2.2.2.2.2.2.1.sub c.2.2.2.2.2.2.2.1), c.2.2.2.1, (), ()), l, ()) ∧ (∀ c_2 d_3, uEz ((c.1, c.2.2.2.2.2.1, uAa .i64 (c.2.2.2.2.2.2.1.sub c.2.2.2.2.2.2.2.1), c.2.2.2.1, (), ()), l, ()) c_2 d_3 → ∃ l, Sa Ec d_3.1 l ∧ true = true ∧ R0 (zsym d a p b m) () (l, ())) ∧ True) (∃ l, Sa Ec d_2.1 l ∧ true = true ∧ R0 (zsym d a p b m) () (l, ()))) (∃ l, Sa Ec d_2.1 l ∧ true = true ∧ R0 (zsym d a p b m) () (l, ()))) ∧ True) (ifp (!uAf (uAa .i64 (c.2.2.2.2.2.2.1.sub c.2.2.2.2.2.2.2.1)) c.2.2.2.2.2.1) (ifp (!uAf c.2.2.2.1 (uAa .i64 (c.2.2.2.2.2.2.1.sub c.2.2.2.2.2.2.2.1))) (∃ l, Sa Ec d_1.1 l ∧ true = true ∧ uCi D ((c.1, c.2.2.2.2.2.1, uAa .i64 (c.2.2.2.2.2.2.1.sub c.2.2.2.2.2.2.2.1), c.2.2.2.1, (), ()), l, ()) ∧ (∀ c_1 d_2, uEz ((c.1, c.2.2.2.2.2.1, uAa .i64 (c.2.2.2.2.2.2.1.sub c.2.2.2.2.2.2.2.1), c.2.2.2.1, (), ()), l, ()) c_1 d_2 → ∃ l, Sa Ec d_2.1 l ∧ true = true ∧ R0 (zsym d a p b m) () (l, ())) ∧ True) (∃ l, Sa Ec d_1.1 l ∧ true = true ∧ R0 (zsym d a p b m) () (l, ()))) (∃ l, Sa Ec d_1.1 l ∧ true = true ∧ R0 (zsym d a p b m) () (l, ())))) (ifp (!uAf (uAa .i64 (c.2.2.2.2.2.2.1.sub c.2.2.2.2.2.2.2.1)) c.2.2.2.2.2.1) (ifp (!uAf c.2.2.2.1 (uAa .i64 (c.2.2.2.2.2.2.1.sub c.2.2.2.2.2.2.2.1))) (∃ l, Sa Ec d_1.1 l ∧ true = true ∧ uCi D ((c.1, c.2.2.2.2.2.1, uAa .i64 (c.2.2.2.2.2.2.1.sub c.2.2.2.2.2.2.2.1), c.2.2.2.1, (), ()), l, ()) ∧ (∀ c_1 d_2, uEz ((c.1, c.2.2.2.2.2.1, uAa .i64 (c.2.2.2.2.2.2.1.sub c.2.2.2.2.2.2.2.1), c.2.2.2.1, (), ()), l, ()) c_1 d_2 → ∃ l, Sa Ec d_2.1 l ∧ true = true ∧ R0 (zsym d a p b m) () (l, ())) ∧ True) (∃ l, Sa Ec d_1.1 l ∧ true = true ∧ R0 (zsym d a p b m) () (l, ()))) (∃ l, Sa Ec d_1.1 l ∧ true = true ∧ R0 (zsym d a p b m) () (l, ()))))) (ifp (!uAf c.2.2.2.2.2.2.2.1 c.2.1) (ifp (!uAf c.2.2.2.2.2.1 c.2.2.2.2.2.2.2.1) (∃ l, Sa Ec d_1.1 l ∧ true = true ∧ uCi D ((c.1, c.2.1, c.2.2.2.2.2.2.2.1, c.2.2.2.2.2.1, (), ()), l, ()) ∧ (∀ c_1 d_2, uEz ((c.1, c.2.1, c.2.2.2.2.2.2.2.1, c.2.2.2.2.2.1, (), ()), l, ()) c_1 d_2 → ifp (!uAf (uAa .i64 (c.2.2.2.2.2.2.1.sub c.2.2.2.2.2.2.2.1)) c.2.2.2.2.2.1) (ifp (!uAf c.2.2.2.1 (uAa .i64 (c.2.2.2.2.2.2.1.sub c.2.2.2.2.2.2.2.1))) (∃ l, Sa Ec d_2.1 l ∧ true = true ∧ uCi D ((c.1, c.2.2.2.2.2.1, uAa .i64 (c.2.2.2.2.2.2.1.sub c.2.2.2.2.2.2.2.1), c.2.2.2.1, (), ()), l, ()) ∧ (∀ c_2 d_3, uEz ((c.1, c.2.2.2.2.2.1, uAa .i64 (c.2.2.2.2.2.2.1.sub c.2.2.2.2.2.2.2.1), c.2.2.2.1, (), ()), l, ()) c_2 d_3 → ∃ l, Sa Ec d_3.1 l ∧ true = true ∧ R0 (zsym d a p b m) () (l, ())) ∧ True) (∃ l, Sa Ec d_2.1 l ∧ true = true ∧ R0 (zsym d a p b m) () (l, ()))) (∃ l, Sa Ec d_2.1 l ∧ true = true ∧ R0 (zsym d a p b m) () (l, ()))) ∧ True) (ifp (!uAf (uAa .i64 (c.2.2.2.2.2.2.1.sub c.2.2.2.2.2.2.2.1)) c.2.2.2.2.2.1) (ifp (!uAf c.2.2.2.1 (uAa .i64 (c.2.2.2.2.2.2.1.sub c.2.2.2.2.2.2.2.1))) (∃ l, Sa Ec d_1.1 l ∧ true = true ∧ uCi D ((c.1, c.2.2.2.2.2.1, uAa .i64 (c.2.2.2.2.2.2.1.sub c.2.2.2.2.2.2.2.1), c.2.2.2.1, (), ()), l, ()) ∧ (∀ c_1 d_2, uEz ((c.1, c.2.2.2.2.2.1, uAa .i64 (c.2.2.2.2.2.2.1.sub c.2.2.2.2.2.2.2.1), c.2.2.2.1, (), ()), l, ()) c_1 d_2 → ∃ l, Sa Ec d_2.1 l ∧ true = true ∧ R0 (zsym d a p b m) () (l, ())) ∧ True) (∃ l, Sa Ec d_1.1 l ∧ true = true ∧ R0 (zsym d a p b m) () (l, ()))) (∃ l, Sa Ec d_1.1 l ∧ true = true ∧ R0 (zsym d a p b m) () (l, ())))) (ifp (!uAf (uAa .i64 (c.2.2.2.2.2.2.1.sub c.2.2.2.2.2.2.2.1)) c.2.2.2.2.2.1) (ifp (!uAf c.2.2.2.1 (uAa .i64 (c.2.2.2.2.2.2.1.sub c.2.2.2.2.2.2.2.1))) (∃ l, Sa Ec d_1.1 l ∧ true = true ∧ uCi D ((c.1, c.2.2.2.2.2.1, uAa .i64 (c.2.2.2.2.2.2.1.sub c.2.2.2.2.2.2.2.1), c.2.2.2.1, (), ()), l, ()) ∧ (∀ c_1 d_2, uEz ((c.1, c.2.2.2.2.2.1, uAa .i64 (c.2.2.2.2.2.2.1.sub c.2.2.2.2.2.2.2.1), c.2.2.2.1, (), ()), l, ()) c_1 d_2 → ∃ l, Sa Ec d_2.1 l ∧ true = true ∧ R0 (zsym d a p b m) () (l, ())) ∧ True) (∃ l, Sa Ec d_1.1 l ∧ true = true ∧ R0 (zsym d a p b m) () (l, ()))) (∃ l, Sa Ec d_1.1 l ∧ true = true ∧ R0 (zsym d a p b m) () (l, ()))))) ∧ True) (uAs PP 68 220 (uAd PP 68 33).loop sm5C ∧ True ∧ True ∧ ∃ l, Sa Ec m l ∧ true = true ∧ sm5Inv ((d, a, p, b, (), uAa .i64 (shrV .u64 (uAa .u64 (uAa .i64 (a.add b))) 1), uAa .i64 ((uAa .i64 (shrV .u64 (uAa .u64 (uAa .i64 (a.add b))) 1)).add p), a, p, uAa .i64 ((uAa .i64 ((uAa .i64 (shrV .u64 (uAa .u64 (uAa .i64 (a.add b))) 1)).add p)).sub 1), ()), l, ()) ∧ (∀ c d_1, sm5R0 ((d, a, p, b, (), uAa .i64 (shrV .u64 (uAa .u64 (uAa .i64 (a.add b))) 1), uAa .i64 ((uAa .i64 (shrV .u64 (uAa .u64 (uAa .i64 (a.add b))) 1)).add p), a, p, uAa .i64 ((uAa .i64 ((uAa .i64 (shrV .u64 (uAa .u64 (uAa .i64 (a.add b))) 1)).add p)).sub 1), ()), l, ()) c d_1 → ifp (!uAf c.2.2.1 c.2.2.2.2.2.2.2.1) (ifp (!uAf (uAa .i64 (c.2.2.2.2.2.2.1.sub c.2.2.2.2.2.2.2.1)) c.2.2.1) (∃ l, Sa Ec d_1.1 l ∧ true = true ∧ rotPre ((c.1, c.2.2.2.2.2.2.2.1, c.2.2.1, uAa .i64 (c.2.2.2.2.2.2.1.sub c.2.2.2.2.2.2.2.1), (), ()), l, ()) ∧ (∀ c_1 d_2, rotR0 ((c.1, c.2.2.2.2.2.2.2.1, c.2.2.1, uAa .i64 (c.2.2.2.2.2.2.1.sub c.2.2.2.2.2.2.2.1), (), ()), l, ()) c_1 d_2 → ifp (!uAf c.2.2.2.2.2.2.2.1 c.2.1) (ifp (!uAf c.2.2.2.2.2.1 c.2.2.2.2.2.2.2.1) (∃ l, Sa Ec d_2.1 l ∧ true = true ∧ uCi D ((c.1, c.2.1, c.2.2.2.2.2.2.2.1, c.2.2.2.2.2.1, (), ()), l, ()) ∧ (∀ c_2 d_3, uEz ((c.1, c.2.1, c.2.2.2.2.2.2.2.1, c.2.2.2.2.2.1, (), ()), l, ()) c_2 d_3 → ifp (!uAf (uAa .i64 (c.2.2.2.2.2.2.1.sub c.2.2.2.2.2.2.2.1)) c.2.2.2.2.2.1) (ifp (!uAf c.2.2.2.1 (uAa .i64 (c.2.2.2.2.2.2.1.sub c.2.2.2.2.2.2.2.1))) (∃ l, Sa Ec d_3.1 l ∧ true = true ∧ uCi D ((c.1, c.2.2.2.2.2.1, uAa .i64 (c.2.2.2.2.2.2.1.sub c.2.2.2.2.2.2.2.1), c.2.2.2.1, (), ()), l, ()) ∧ (∀ c_3 d_4, uEz ((c.1, c.2.2.2.2.2.1, uAa .i64 (c.2.2.2.2.2.2.1.sub c.2.2.2.2.2.2.2.1), c.2.2.2.1, (), ()), l, ()) c_3 d_4 → ∃ l, Sa Ec d_4.1 l ∧ true = true ∧ R0 (zsym d a p b m) () (l, ())) ∧ True) (∃ l, Sa Ec d_3.1 l ∧ true = true ∧ R0 (zsym d a p b m) () (l, ()))) (∃ l, Sa Ec d_3.1 l ∧ true = true ∧ R0 (zsym d a p b m) () (l, ()))) ∧ True) (ifp (!uAf (uAa .i64 (c.2.2.2.2.2.2.1.sub c.2.2.2.2.2.2.2.1)) c.2.2.2.2.2.1) (ifp (!uAf c.2.2.2.1 (uAa .i64 (c.2.2.2.2.2.2.1.sub c.2.2.2.2.2.2.2.1))) (∃ l, Sa Ec d_2.1 l ∧ true = true ∧ uCi D ((c.1, c.2.2.2.2.2.1, uAa .i64 (c.2.2.2.2.2.2.1.sub c.2.2.2.2.2.2.2.1), c.2.2.2.1, (), ()), l, ()) ∧ (∀ c_2 d_3, uEz ((c.1, c.2.2.2.2.2.1, uAa .i64 (c.2.2.2.2.2.2.1.sub c.2.2.2.2.2.2.2.1), c.2.2.2.1, (), ()), l, ()) c_2 d_3 → ∃ l, Sa Ec d_3.1 l ∧ true = true ∧ R0 (zsym d a p b m) () (l, ())) ∧ True) (∃ l, Sa Ec d_2.1 l ∧ true = true ∧ R0 (zsym d a p b m) () (l, ()))) (∃ l, Sa Ec d_2.1 l ∧ true = true ∧ R0 (zsym d a p b m) () (l, ())))) (ifp (!uAf (uAa .i64 (c.2.2.2.2.2.2.1.sub c.2.2.2.2.2.2.2.1)) c.2.2.2.2.2.1) (ifp (!uAf c.2.2.2.1 (uAa .i64 (c.2.2.2.2.2.2.1.sub c.2.2.2.2.2.2.2.1))) (∃ l, Sa Ec d_2.1 l ∧ true = true ∧ uCi D ((c.1, c.2.2.2.2.2.1, uAa .i64 (c.2.2.2.2.2.2.1.sub c.2.2.2.2.2.2.2.1), c.2.2.2.1, (), ()), l, ()) ∧ (∀ c_2 d_3, uEz ((c.1, c.2.2.2.2.2.1, uAa .i64 (c.2.2.2.2.2.2.1.sub c.2.2.2.2.2.2.2.1), c.2.2.2.1, (), ()), l, ()) c_2 d_3 → ∃ l, Sa Ec d_3.1 l ∧ true = true ∧ R0 (zsym d a p b m) () (l, ())) ∧ True) (∃ l, Sa Ec d_2.1 l ∧ true = true ∧ R0 (zsym d a p b m) () (l, ()))) (∃ l, Sa Ec d_2.1 l ∧ true = true ∧ R0 (zsym d a p b m) () (l, ())))) ∧ True) (ifp (!uAf c.2.2.2.2.2.2.2.1 c.2.1) (ifp (!uAf c.2.2.2.2.2.1 c.2.2.2.2.2.2.2.1) (∃ l, Sa Ec d_1.1 l ∧ true = true ∧ uCi D ((c.1, c.2.1, c.2.2.2.2.2.2.2.1, c.2.2.2.2.2.1, (), ()), l, ()) ∧ (∀ c_1 d_2, uEz ((c.1, c.2.1, c.2.2.2.2.2.2.2.1, c.2.2.2.2.2.1, (), ()), l, ()) c_1 d_2 → ifp (!uAf (uAa .i64 (c.2.2.2.2.2.2.1.sub c.2.2.2.2.2.2.2.1)) c.2.2.2.2.2.1) (ifp (!uAf c.2.2.2.1 (uAa .i64 (c.2.2.2.2.2.2.1.sub c.2.2.2.2.2.2.2.1))) (∃ l, Sa Ec d_2.1 l ∧ true = true ∧ uCi D ((c.1, c.2.2.2.2.2.1, uAa .i64 (c.2.2.2.2.2.2.1.sub c.2.2.2.2.2.2.2.1), c.2.2.2.1, (), ()), l, ()) ∧ (∀ c_2 d_3, uEz ((c.1, c.2.2.2.2.2.1, uAa .i64 (c.2.2.2.2.2.2.1.sub c.2.2.2.2.2.2.2.1), c.2.2.2.1, (), ()), l, ()) c_2 d_3 → ∃ l, Sa Ec d_3.1 l ∧ true = true ∧ R0 (zsym d a p b m) () (l, ())) ∧ True) (∃ l, Sa Ec d_2.1 l ∧ true = true ∧ R0 (zsym d a p b m) () (l, ()))) (∃ l, Sa Ec d_2.1 l ∧ true = true ∧ R0 (zsym d a p b m) () (l, ()))) ∧ True) (ifp (!uAf (uAa .i64 (c.2.2.2.2.2.2.1.sub c.2.2.2.2.2.2.2.1)) c.2.2.2.2.2.1) (ifp (!uAf c.2.2.2.1 (uAa .i64 (c.2.2.2.2.2.2.1.sub c.2.2.2.2.2.2.2.1))) (∃ l, Sa Ec d_1.1 l ∧ true = true ∧ uCi D ((c.1, c.2.2.2.2.2.1, uAa .i64 (c.2.2.2.2.2.2.1.sub c.2.2.2.2.2.2.2.1), c.2.2.2.1, (), ()), l, ()) ∧ (∀ c_1 d_2, uEz ((c.1, c.2.2.2.2.2.1, uAa .i64 (c.2.2.2.2.2.2.1.sub c.2.2.2.2.2.2.2.1), c.2.2.2.1, (), ()), l, ()) c_1 d_2 → ∃ l, Sa Ec d_2.1 l ∧ true = true ∧ R0 (zsym d a p b m) () (l, ())) ∧ True) (∃ l, Sa Ec d_1.1 l ∧ true = true ∧ R0 (zsym d a p b m) () (l, ()))) (∃ l, Sa Ec d_1.1 l ∧ true = true ∧ R0 (zsym d a p b m) () (l, ())))) (ifp (!uAf (uAa .i64 (c.2.2.2.2.2.2.1.sub c.2.2.2.2.2.2.2.1)) c.2.2.2.2.2.1) (ifp (!uAf c.2.2.2.1 (uAa .i64 (c.2.2.2.2.2.2.1.sub c.2.2.2.2.2.2.2.1))) (∃ l, Sa Ec d_1.1 l ∧ true = true ∧ uCi D ((c.1, c.2.2.2.2.2.1, uAa .i64 (c.2.2.2.2.2.2.1.sub c.2.2.2.2.2.2.2.1), c.2.2.2.1, (), ()), l, ()) ∧ (∀ c_1 d_2, uEz ((c.1, c.2.2.2.2.2.1, uAa .i64 (c.2.2.2.2.2.2.1.sub c.2.2.2.2.2.2.2.1), c.2.2.2.1, (), ()), l, ()) c_1 d_2 → ∃ l, Sa Ec d_2.1 l ∧ true = true ∧ R0 (zsym d a p b m) () (l, ())) ∧ True) (∃ l, Sa Ec d_1.1 l ∧ true = true ∧ R0 (zsym d a p b m) () (l, ()))) (∃ l, Sa Ec d_1.1 l ∧ true = true ∧ R0 (zsym d a p b m) () (l, ()))))) (ifp (!uAf c.2.2.2.2.2.2.2.1 c.2.1) (ifp (!uAf c.2.2.2.2.2.1 c.2.2.2.2.2.2.2.1) (∃ l, Sa Ec d_1.1 l ∧ true = true ∧ uCi D ((c.1, c.2.1, c.2.2.2.2.2.2.2.1, c.2.2.2.2.2.1, (), ()), l, ()) ∧ (∀ c_1 d_2, uEz ((c.1, c.2.1, c.2.2.2.2.2.2.2.1, c.2.2.2.2.2.1, (), ()), l, ()) c_1 d_2 → ifp (!uAf (uAa .i64 (c.2.2.2.2.2.2.1.sub c.2.2.2.2.2.2.2.1)) c.2.2.2.2.2.1) (ifp (!uAf c.2.2.2.1 (uAa .i64 (c.2.2.2.2.2.2.1.sub c.2.2.2.2.2.2.2.1))) (∃ l, Sa Ec d_2.1 l ∧ true = true ∧ uCi D ((c.1, c.2.2.2.2.2.1, uAa .i64 (c.2.2.2.2.2.2.1.sub c.2.2.2.2.2.2.2.1), c.2.2.2.1, (), ()), l, ()) ∧ (∀ c_2 d_3, uEz ((c.1, c.2.2.2.2.2.1, uAa .i64 (c.2.2.2.2.2.2.1.sub c.2.2.2.2.2.2.2.1), c.2.2.2.1, (), ()), l, ()) c_2 d_3 → ∃ l, Sa Ec d_3.1 l ∧ true = true ∧ R0 (zsym d a p b m) () (l, ())) ∧ True) (∃ l, Sa Ec d_2.1 l ∧ true = true ∧ R0 (zsym d a p b m) () (l, ()))) (∃ l, Sa Ec d_2.1 l ∧ true = true ∧ R0 (zsym d a p b m) () (l, ()))) ∧ True) (ifp (!uAf (uAa .i64 (c.2.2.2.2.2.2.1.sub c.2.2.2.2.2.2.2.1)) c.2.2.2.2.2.1) (ifp (!uAf c.2.2.2.1 (uAa .i64 (c.2.2.2.2.2.2.1.sub c.2.2.2.2.2.2.2.1))) (∃ l, Sa Ec d_1.1 l ∧ true = true ∧ uCi D ((c.1, c.2.2.2.2.2.1, uAa .i64 (c.2.2.2.2.2.2.1.sub c.2.2.2.2.2.2.2.1), c.2.2.2.1, (), ()), l, ()) ∧ (∀ c_1 d_2, uEz ((c.1, c.2.2.2.2.2.1, uAa .i64 (c.2.2.2.2.2.2.1.sub c.2.2.2.2.2.2.2.1), c.2.2.2.1, (), ()), l, ()) c_1 d_2 → ∃ l, Sa Ec d_2.1 l ∧ true = true ∧ R0 (zsym d a p b m) () (l, ())) ∧ True) (∃ l, Sa Ec d_1.1 l ∧ true = true ∧ R0 (zsym d a p b m) () (l, ()))) (∃ l, Sa Ec d_1.1 l ∧ true = true ∧ R0 (zsym d a p b m) () (l, ())))) (ifp (!uAf (uAa .i64 (c.2.2.2.2.2.2.1.sub c.2.2.2.2.2.2.2.1)) c.2.2.2.2.2.1) (ifp (!uAf c.2.2.2.1 (uAa .i64 (c.2.2.2.2.2.2.1.sub c.2.2.2.2.2.2.2.1))) (∃ l, Sa Ec d_1.1 l ∧ true = true ∧ uCi D ((c.1, c.2.2.2.2.2.1, uAa .i64 (c.2.2.2.2.2.2.1.sub c.2.2.2.2.2.2.2.1), c.2.2.2.1, (), ()), l, ()) ∧ (∀ c_1 d_2, uEz ((c.1, c.2.2.2.2.2.1, uAa .i64 (c.2.2.2.2.2.2.1.sub c.2.2.2.2.2.2.2.1), c.2.2.2.1, (), ()), l, ()) c_1 d_2 → ∃ l, Sa Ec d_2.1 l ∧ true = true ∧ R0 (zsym d a p b m) () (l, ())) ∧ True) (∃ l, Sa Ec d_1.1 l ∧ true = true ∧ R0 (zsym d a p b m) () (l, ()))) (∃ l, Sa Ec d_1.1 l ∧ true = true ∧ R0 (zsym d a p b m) () (l, ()))))) ∧ True)))) := by kernel_rfl
theorem symStep (D : Nat) (z : symZ) (hp : uCi (D + 1) z) : uA2 PP (runW PP (KLS [(45, cmpcK), (81, rotK), (68, symK D)] [(68, [(3, sm1C), (9, sm2C), (15, sm3C), (21, sm4C), (33, sm5C)])] 54) 200) 68 (symT.cells id z.1) (stL false (symBl.obs id z.2)) (fun v st => uA1 1 z v st (symRes uEz)) := by
 obtain ⟨⟨d, a, p, b, _, _⟩, ⟨m, _⟩⟩ := z
 refine (symFn D d a p b m _).mpr ?_
 obtain ⟨A, M, B, rfl, rfl, rfl, hAM, hMB, hB, hD, hd, hm⟩ := hp
 obtain ⟨d1, d2⟩ := d
 obtain rfl : d1 = m.length := hd
 have e1 : uAa .i64 (Int.sub (M : Int) (A : Int)) = ((M - A : Nat) : Int) := by rw [wsub (by omega) (by omega)]; omega
 have e2 : uAa .i64 (Int.sub (B : Int) (M : Int)) = ((B - M : Nat) : Int) := by rw [wsub (by omega) (by omega)]; omega
 rw [e1, uCz]
 split
 ·rename_i h
  obtain rfl : M = A + 1 := by omega
  refine ⟨sm1Ok, trivial, trivial, m, rfl, (by trivial), ⟨A, A + 1, B, rfl, rfl, rfl, by omega, by omega, hB, rfl, hm⟩, fun c d3 hr => ?_, trivial⟩
  obtain ⟨dd, a2, p2, b2, _, i2, _⟩ := c
  obtain ⟨m2, _⟩ := d3
  obtain ⟨r1, r2, r3, r4, r5, r, r6, r7⟩ := hr
  obtain rfl : dd = (m.length, d2) := r1
  obtain rfl : a2 = (A : Int) := r2
  obtain rfl : m = m2 := r5.symm
  obtain rfl : i2 = (r : Int) := r6
  have hb1 : A + 1 ≤ r := r7.1
  have hb2 : r ≤ B := r7.2.1
  refine ⟨sm2Ok, trivial, trivial, m, rfl, (by trivial), ⟨r, A, rfl, rfl, by omega, by omega, rfl, hm⟩, fun _ d4 hr4 => ?_, trivial⟩
  obtain ⟨m4, _⟩ := d4
  obtain ⟨l4, s4⟩ := hr4
  exact ⟨m4, rfl, (by trivial), l4, Stab.SymR.one weakC r7 s4⟩
 ·rename_i hne
  rw [e2, uCz]
  split
  ·rename_i h
   obtain rfl : B = M + 1 := by omega
   refine ⟨sm3Ok, trivial, trivial, m, rfl, (by trivial), ⟨M, A, M, rfl, rfl, rfl, by omega, by omega, by omega, rfl, hm⟩, fun c d3 hr => ?_, trivial⟩
   obtain ⟨dd, a2, p2, b2, _, i2, _⟩ := c
   obtain ⟨m2, _⟩ := d3
   obtain ⟨r1, r2, r3, r4, r5, r, r6, r7⟩ := hr
   obtain rfl : dd = (m.length, d2) := r1
   obtain rfl : p2 = (M : Int) := r3
   obtain rfl : m = m2 := r5.symm
   obtain rfl : i2 = (r : Int) := r6
   refine ⟨sm4Ok, trivial, trivial, m, rfl, (by trivial), ⟨r, M, rfl, rfl, by omega, rfl, hm⟩, fun _ d4 hr4 => ?_, trivial⟩
   obtain ⟨m4, _⟩ := d4
   obtain ⟨l4, s4⟩ := hr4
   exact ⟨m4, rfl, (by trivial), l4, Stab.SymR.last weakC r7 s4⟩
  ·rename_i hne2
   refine ⟨by decide, ?_⟩
   have eh := mid_eq (I := A) (J := B) (by omega)
   obtain ⟨Mi, hH⟩ : ∃ Mi, Mi = (A + B) / 2 := ⟨_, rfl⟩
   rw [← hH] at eh
   have en : uAa .i64 (Int.add (Mi : Int) (M : Int)) = ((Mi + M : Nat) : Int) := by rw [wadd (by omega) (by omega)]; omega
   have eq : uAa .i64 (Int.sub ((Mi + M : Nat) : Int) 1) = ((Mi + M - 1 : Nat) : Int) := by rw [wsub (by omega) (by omega)]; omega
   simp only [eh, en, eq]
   rw [uAe]
   split
   ·rename_i hlt
    have eb : uAa .i64 (Int.sub ((Mi + M : Nat) : Int) (B : Int)) = ((Mi + M - B : Nat) : Int) := by rw [wsub (by omega) (by omega)]; omega
    simp only [eb]
    refine ⟨sm5Ok, trivial, trivial, m, rfl, (by trivial), ⟨Mi + M - B, Mi, Mi + M - 1, rfl, rfl, rfl, by omega, by omega, by omega, by omega, rfl, hm⟩, fun c d3 hr => ?_, trivial⟩
    obtain ⟨dd, a2, p2, b2, _, mid2, n2, s2, _⟩ := c
    obtain ⟨m2, _⟩ := d3
    obtain ⟨r1, r2, r3, r4, r5, r8, r9, S, r6, r7⟩ := hr
    obtain rfl : dd = (m.length, d2) := r1
    obtain rfl : a2 = (A : Int) := r2
    obtain rfl : p2 = (M : Int) := r3
    obtain rfl : b2 = (B : Int) := r4
    obtain rfl : mid2 = (Mi : Int) := r5
    obtain rfl : n2 = ((Mi + M : Nat) : Int) := r8
    obtain rfl : m = m2 := r9.symm
    obtain rfl : s2 = (S : Int) := r6
    have hb : Stab.BS (fun c => !Stab.at_ ltC m (Mi + M - 1 - c) c) (Mi + M - B) (Mi) S := r7
    have hb1 := hb.1
    have hb2 := hb.2.1
    obtain ⟨E, hE⟩ : ∃ E, E = Mi + M - S := ⟨_, rfl⟩
    have eE : uAa .i64 (Int.sub ((Mi + M : Nat) : Int) (S : Int)) = (E : Int) := by rw [wsub (by omega) (by omega)]; omega
    have fin : ∀ l1 l2 l3 : List Cd, ((S < M ∧ M < E ∧ Stab.RotR m S M E l1) ∨ (¬ (S < M ∧ M < E) ∧ l1 = m)) → ((A < S ∧ S < Mi ∧ Stab.SymR ltC l1 A S Mi l2) ∨ (¬ (A < S ∧ S < Mi) ∧ l2 = l1)) → ((Mi < E ∧ E < B ∧ Stab.SymR ltC l2 Mi E B l3) ∨ (¬ (Mi < E ∧ E < B) ∧ l3 = l2)) → Stab.SymR ltC m A M B l3 := by
     subst hE
     exact fun l1 l2 l3 h1 h2 h3 => Stab.SymR.halves weakC hAM hMB hH (Or.inl ⟨by omega, rfl, rfl⟩) hb h1 h2 h3
    simp only [eE]
    rw [uAe]
    split
    ·rename_i k1
     rw [uAe]
     split
     ·rename_i k2
      refine ⟨m, rfl, (by trivial), ⟨S, M, E, rfl, rfl, rfl, by omega, by omega, by omega, rfl, hm⟩, fun _ d7 hr7 => ?_, trivial⟩
      obtain ⟨m7, _⟩ := d7
      obtain ⟨l7, s7⟩ := hr7
      replace l7 : m7.length = m.length := l7
      rw [uAe]
      split
      ·rename_i f1
       rw [uAe]
       split
       ·rename_i f2
        refine ⟨m7, rfl, (by trivial), ⟨A, S, Mi, rfl, rfl, rfl, by omega, by omega, by omega, by omega, Eq.symm (l7), by omega⟩, fun _ d8 hr8 => ?_, trivial⟩
        obtain ⟨m8, _⟩ := d8
        obtain ⟨l8, s8⟩ := hr8
        have l8' : m8.length = m.length := l8.trans (l7)
        rw [uAe]
        split
        ·rename_i g1
         rw [uAe]
         split
         ·rename_i g2
          refine ⟨m8, rfl, (by trivial), ⟨Mi, E, B, rfl, rfl, rfl, by omega, by omega, by omega, by omega, Eq.symm (l8'), by omega⟩, fun _ d9 hr9 => ?_, trivial⟩
          obtain ⟨m9, _⟩ := d9
          obtain ⟨l9, s9⟩ := hr9
          exact ⟨m9, rfl, (by trivial), l9.trans (l8'), fin m7 m8 m9 (Or.inl ⟨by omega, by omega, s7⟩) (Or.inl ⟨by omega, by omega, s8⟩) (Or.inl ⟨by omega, by omega, s9⟩)⟩
         ·rename_i g2
          exact ⟨m8, rfl, (by trivial), l8', fin m7 m8 m8 (Or.inl ⟨by omega, by omega, s7⟩) (Or.inl ⟨by omega, by omega, s8⟩) (Or.inr ⟨by omega, rfl⟩)⟩
        ·rename_i g1
         exact ⟨m8, rfl, (by trivial), l8', fin m7 m8 m8 (Or.inl ⟨by omega, by omega, s7⟩) (Or.inl ⟨by omega, by omega, s8⟩) (Or.inr ⟨by omega, rfl⟩)⟩
       ·rename_i f2
        rw [uAe]
        split
        ·rename_i g1
         rw [uAe]
         split
         ·rename_i g2
          refine ⟨m7, rfl, (by trivial), ⟨Mi, E, B, rfl, rfl, rfl, by omega, by omega, by omega, by omega, Eq.symm (l7), by omega⟩, fun _ d9 hr9 => ?_, trivial⟩
          obtain ⟨m9, _⟩ := d9
          obtain ⟨l9, s9⟩ := hr9
          exact ⟨m9, rfl, (by trivial), l9.trans (l7), fin m7 m7 m9 (Or.inl ⟨by omega, by omega, s7⟩) (Or.inr ⟨by omega, rfl⟩) (Or.inl ⟨by omega, by omega, s9⟩)⟩
         ·rename_i g2
          exact ⟨m7, rfl, (by trivial), l7, fin m7 m7 m7 (Or.inl ⟨by omega, by omega, s7⟩) (Or.inr ⟨by omega, rfl⟩) (Or.inr ⟨by omega, rfl⟩)⟩
        ·rename_i g1
         exact ⟨m7, rfl, (by trivial), l7, fin m7 m7 m7 (Or.inl ⟨by omega, by omega, s7⟩) (Or.inr ⟨by omega, rfl⟩) (Or.inr ⟨by omega, rfl⟩)⟩
      ·rename_i f1
       rw [uAe]
       split
       ·rename_i g1
        rw [uAe]
        split
        ·rename_i g2
         refine ⟨m7, rfl, (by trivial), ⟨Mi, E, B, rfl, rfl, rfl, by omega, by omega, by omega, by omega, Eq.symm (l7), by omega⟩, fun _ d9 hr9 => ?_, trivial⟩
         obtain ⟨m9, _⟩ := d9
         obtain ⟨l9, s9⟩ := hr9
         exact ⟨m9, rfl, (by trivial), l9.trans (l7), fin m7 m7 m9 (Or.inl ⟨by omega, by omega, s7⟩) (Or.inr ⟨by omega, rfl⟩) (Or.inl ⟨by omega, by omega, s9⟩)⟩
        ·rename_i g2
         exact ⟨m7, rfl, (by trivial), l7, fin m7 m7 m7 (Or.inl ⟨by omega, by omega, s7⟩) (Or.inr ⟨by omega, rfl⟩) (Or.inr ⟨by omega, rfl⟩)⟩
       ·rename_i g1
        exact ⟨m7, rfl, (by trivial), l7, fin m7 m7 m7 (Or.inl ⟨by omega, by omega, s7⟩) (Or.inr ⟨by omega, rfl⟩) (Or.inr ⟨by omega, rfl⟩)⟩
     ·rename_i k2
      rw [uAe]
      split
      ·rename_i f1
       rw [uAe]
       split
       ·rename_i f2
        refine ⟨m, rfl, (by trivial), ⟨A, S, Mi, rfl, rfl, rfl, by omega, by omega, by omega, by omega, Eq.symm (rfl), by omega⟩, fun _ d8 hr8 => ?_, trivial⟩
        obtain ⟨m8, _⟩ := d8
        obtain ⟨l8, s8⟩ := hr8
        have l8' : m8.length = m.length := l8.trans (rfl)
        rw [uAe]
        split
        ·rename_i g1
         rw [uAe]
         split
         ·rename_i g2
          refine ⟨m8, rfl, (by trivial), ⟨Mi, E, B, rfl, rfl, rfl, by omega, by omega, by omega, by omega, Eq.symm (l8'), by omega⟩, fun _ d9 hr9 => ?_, trivial⟩
          obtain ⟨m9, _⟩ := d9
          obtain ⟨l9, s9⟩ := hr9
          exact ⟨m9, rfl, (by trivial), l9.trans (l8'), fin m m8 m9 (Or.inr ⟨by omega, rfl⟩) (Or.inl ⟨by omega, by omega, s8⟩) (Or.inl ⟨by omega, by omega, s9⟩)⟩
         ·rename_i g2
          exact ⟨m8, rfl, (by trivial), l8', fin m m8 m8 (Or.inr ⟨by omega, rfl⟩) (Or.inl ⟨by omega, by omega, s8⟩) (Or.inr ⟨by omega, rfl⟩)⟩
        ·rename_i g1
         exact ⟨m8, rfl, (by trivial), l8', fin m m8 m8 (Or.inr ⟨by omega, rfl⟩) (Or.inl ⟨by omega, by omega, s8⟩) (Or.inr ⟨by omega, rfl⟩)⟩
       ·rename_i f2
        rw [uAe]
        split
        ·rename_i g1
         rw [uAe]
         split
         ·rename_i g2
          refine ⟨m, rfl, (by trivial), ⟨Mi, E, B, rfl, rfl, rfl, by omega, by omega, by omega, by omega, Eq.symm (rfl), by omega⟩, fun _ d9 hr9 => ?_, trivial⟩
          obtain ⟨m9, _⟩ := d9
          obtain ⟨l9, s9⟩ := hr9
          exact ⟨m9, rfl, (by trivial), l9.trans (rfl), fin m m m9 (Or.inr ⟨by omega, rfl⟩) (Or.inr ⟨by omega, rfl⟩) (Or.inl ⟨by omega, by omega, s9⟩)⟩
         ·rename_i g2
          exact ⟨m, rfl, (by trivial), rfl, fin m m m (Or.inr ⟨by omega, rfl⟩) (Or.inr ⟨by omega, rfl⟩) (Or.inr ⟨by omega, rfl⟩)⟩
        ·rename_i g1
         exact ⟨m, rfl, (by trivial), rfl, fin m m m (Or.inr ⟨by omega, rfl⟩) (Or.inr ⟨by omega, rfl⟩) (Or.inr ⟨by omega, rfl⟩)⟩
      ·rename_i f1
       rw [uAe]
       split
       ·rename_i g1
        rw [uAe]
        split
        ·rename_i g2
         refine ⟨m, rfl, (by trivial), ⟨Mi, E, B, rfl, rfl, rfl, by omega, by omega, by omega, by omega, Eq.symm (rfl), by omega⟩, fun _ d9 hr9 => ?_, trivial⟩
         obtain ⟨m9, _⟩ := d9
         obtain ⟨l9, s9⟩ := hr9
         exact ⟨m9, rfl, (by trivial), l9.trans (rfl), fin m m m9 (Or.inr ⟨by omega, rfl⟩) (Or.inr ⟨by omega, rfl⟩) (Or.inl ⟨by omega, by omega, s9⟩)⟩
        ·rename_i g2
         exact ⟨m, rfl, (by trivial), rfl, fin m m m (Or.inr ⟨by omega, rfl⟩) (Or.inr ⟨by omega, rfl⟩) (Or.inr ⟨by omega, rfl⟩)⟩
       ·rename_i g1
        exact ⟨m, rfl, (by trivial), rfl, fin m m m (Or.inr ⟨by omega, rfl⟩) (Or.inr ⟨by omega, rfl⟩) (Or.inr ⟨by omega, rfl⟩)⟩
    ·rename_i k1
     rw [uAe]
     split
     ·rename_i f1
      rw [uAe]
      split
      ·rename_i f2
       refine ⟨m, rfl, (by trivial), ⟨A, S, Mi, rfl, rfl, rfl, by omega, by omega, by omega, by omega, Eq.symm (rfl), by omega⟩, fun _ d8 hr8 => ?_, trivial⟩
       obtain ⟨m8, _⟩ := d8
       obtain ⟨l8, s8⟩ := hr8
       have l8' : m8.length = m.length := l8.trans (rfl)
       rw [uAe]
       split
       ·rename_i g1
        rw [uAe]
        split
        ·rename_i g2
         refine ⟨m8, rfl, (by trivial), ⟨Mi, E, B, rfl, rfl, rfl, by omega, by omega, by omega, by omega, Eq.symm (l8'), by omega⟩, fun _ d9 hr9 => ?_, trivial⟩
         obtain ⟨m9, _⟩ := d9
         obtain ⟨l9, s9⟩ := hr9
         exact ⟨m9, rfl, (by trivial), l9.trans (l8'), fin m m8 m9 (Or.inr ⟨by omega, rfl⟩) (Or.inl ⟨by omega, by omega, s8⟩) (Or.inl ⟨by omega, by omega, s9⟩)⟩
        ·rename_i g2
         exact ⟨m8, rfl, (by trivial), l8', fin m m8 m8 (Or.inr ⟨by omega, rfl⟩) (Or.inl ⟨by omega, by omega, s8⟩) (Or.inr ⟨by omega, rfl⟩)⟩
       ·rename_i g1
        exact ⟨m8, rfl, (by trivial), l8', fin m m8 m8 (Or.inr ⟨by omega, rfl⟩) (Or.inl ⟨by omega, by omega, s8⟩) (Or.inr ⟨by omega, rfl⟩)⟩
      ·rename_i f2
       rw [uAe]
       split
       ·rename_i g1
        rw [uAe]
        split
        ·rename_i g2
         refine ⟨m, rfl, (by trivial), ⟨Mi, E, B, rfl, rfl, rfl, by omega, by omega, by omega, by omega, Eq.symm (rfl), by omega⟩, fun _ d9 hr9 => ?_, trivial⟩
         obtain ⟨m9, _⟩ := d9
         obtain ⟨l9, s9⟩ := hr9
         exact ⟨m9, rfl, (by trivial), l9.trans (rfl), fin m m m9 (Or.inr ⟨by omega, rfl⟩) (Or.inr ⟨by omega, rfl⟩) (Or.inl ⟨by omega, by omega, s9⟩)⟩
        ·rename_i g2
         exact ⟨m, rfl, (by trivial), rfl, fin m m m (Or.inr ⟨by omega, rfl⟩) (Or.inr ⟨by omega, rfl⟩) (Or.inr ⟨by omega, rfl⟩)⟩
       ·rename_i g1
        exact ⟨m, rfl, (by trivial), rfl, fin m m m (Or.inr ⟨by omega, rfl⟩) (Or.inr ⟨by omega, rfl⟩) (Or.inr ⟨by omega, rfl⟩)⟩
     ·rename_i f1
      rw [uAe]
      split
      ·rename_i g1
       rw [uAe]
       split
       ·rename_i g2
        refine ⟨m, rfl, (by trivial), ⟨Mi, E, B, rfl, rfl, rfl, by omega, by omega, by omega, by omega, Eq.symm (rfl), by omega⟩, fun _ d9 hr9 => ?_, trivial⟩
        obtain ⟨m9, _⟩ := d9
        obtain ⟨l9, s9⟩ := hr9
        exact ⟨m9, rfl, (by trivial), l9.trans (rfl), fin m m m9 (Or.inr ⟨by omega, rfl⟩) (Or.inr ⟨by omega, rfl⟩) (Or.inl ⟨by omega, by omega, s9⟩)⟩
       ·rename_i g2
        exact ⟨m, rfl, (by trivial), rfl, fin m m m (Or.inr ⟨by omega, rfl⟩) (Or.inr ⟨by omega, rfl⟩) (Or.inr ⟨by omega, rfl⟩)⟩
      ·rename_i g1
       exact ⟨m, rfl, (by trivial), rfl, fin m m m (Or.inr ⟨by omega, rfl⟩) (Or.inr ⟨by omega, rfl⟩) (Or.inr ⟨by omega, rfl⟩)⟩
   ·rename_i hlt
    refine ⟨sm5Ok, trivial, trivial, m, rfl, (by trivial), ⟨A, M, Mi + M - 1, rfl, rfl, rfl, by omega, by omega, by omega, by omega, rfl, hm⟩, fun c d3 hr => ?_, trivial⟩
    obtain ⟨dd, a2, p2, b2, _, mid2, n2, s2, _⟩ := c
    obtain ⟨m2, _⟩ := d3
    obtain ⟨r1, r2, r3, r4, r5, r8, r9, S, r6, r7⟩ := hr
    obtain rfl : dd = (m.length, d2) := r1
    obtain rfl : a2 = (A : Int) := r2
    obtain rfl : p2 = (M : Int) := r3
    obtain rfl : b2 = (B : Int) := r4
    obtain rfl : mid2 = (Mi : Int) := r5
    obtain rfl : n2 = ((Mi + M : Nat) : Int) := r8
    obtain rfl : m = m2 := r9.symm
    obtain rfl : s2 = (S : Int) := r6
    have hb : Stab.BS (fun c => !Stab.at_ ltC m (Mi + M - 1 - c) c) (A) (M) S := r7
    have hb1 := hb.1
    have hb2 := hb.2.1
    obtain ⟨E, hE⟩ : ∃ E, E = Mi + M - S := ⟨_, rfl⟩
    have eE : uAa .i64 (Int.sub ((Mi + M : Nat) : Int) (S : Int)) = (E : Int) := by rw [wsub (by omega) (by omega)]; omega
    have fin : ∀ l1 l2 l3 : List Cd, ((S < M ∧ M < E ∧ Stab.RotR m S M E l1) ∨ (¬ (S < M ∧ M < E) ∧ l1 = m)) → ((A < S ∧ S < Mi ∧ Stab.SymR ltC l1 A S Mi l2) ∨ (¬ (A < S ∧ S < Mi) ∧ l2 = l1)) → ((Mi < E ∧ E < B ∧ Stab.SymR ltC l2 Mi E B l3) ∨ (¬ (Mi < E ∧ E < B) ∧ l3 = l2)) → Stab.SymR ltC m A M B l3 := by
     subst hE
     exact fun l1 l2 l3 h1 h2 h3 => Stab.SymR.halves weakC hAM hMB hH (Or.inr ⟨by omega, rfl, rfl⟩) hb h1 h2 h3
    simp only [eE]
    rw [uAe]
    split
    ·rename_i k1
     rw [uAe]
     split
     ·rename_i k2
      refine ⟨m, rfl, (by trivial), ⟨S, M, E, rfl, rfl, rfl, by omega, by omega, by omega, rfl, hm⟩, fun _ d7 hr7 => ?_, trivial⟩
      obtain ⟨m7, _⟩ := d7
      obtain ⟨l7, s7⟩ := hr7
      replace l7 : m7.length = m.length := l7
      rw [uAe]
      split
      ·rename_i f1
       rw [uAe]
       split
       ·rename_i f2
        refine ⟨m7, rfl, (by trivial), ⟨A, S, Mi, rfl, rfl, rfl, by omega, by omega, by omega, by omega, Eq.symm (l7), by omega⟩, fun _ d8 hr8 => ?_, trivial⟩
        obtain ⟨m8, _⟩ := d8
        obtain ⟨l8, s8⟩ := hr8
        have l8' : m8.length = m.length := l8.trans (l7)
        rw [uAe]
        split
        ·rename_i g1
         rw [uAe]
         split
         ·rename_i g2
          refine ⟨m8, rfl, (by trivial), ⟨Mi, E, B, rfl, rfl, rfl, by omega, by omega, by omega, by omega, Eq.symm (l8'), by omega⟩, fun _ d9 hr9 => ?_, trivial⟩
          obtain ⟨m9, _⟩ := d9
          obtain ⟨l9, s9⟩ := hr9
          exact ⟨m9, rfl, (by trivial), l9.trans (l8'), fin m7 m8 m9 (Or.inl ⟨by omega, by omega, s7⟩) (Or.inl ⟨by omega, by omega, s8⟩) (Or.inl ⟨by omega, by omega, s9⟩)⟩
         ·rename_i g2
          exact ⟨m8, rfl, (by trivial), l8', fin m7 m8 m8 (Or.inl ⟨by omega, by omega, s7⟩) (Or.inl ⟨by omega, by omega, s8⟩) (Or.inr ⟨by omega, rfl⟩)⟩
        ·rename_i g1
         exact ⟨m8, rfl, (by trivial), l8', fin m7 m8 m8 (Or.inl ⟨by omega, by omega, s7⟩) (Or.inl ⟨by omega, by omega, s8⟩) (Or.inr ⟨by omega, rfl⟩)⟩
       ·rename_i f2
        rw [uAe]
        split
        ·rename_i g1
         rw [uAe]
         split
         ·rename_i g2
          refine ⟨m7, rfl, (by trivial), ⟨Mi, E, B, rfl, rfl, rfl, by omega, by omega, by omega, by omega, Eq.symm (l7), by omega⟩, fun _ d9 hr9 => ?_, trivial⟩
          obtain ⟨m9, _⟩ := d9
          obtain ⟨l9, s9⟩ := hr9
          exact ⟨m9, rfl, (by trivial), l9.trans (l7), fin m7 m7 m9 (Or.inl ⟨by omega, by omega, s7⟩) (Or.inr ⟨by omega, rfl⟩) (Or.inl ⟨by omega, by omega, s9⟩)⟩
         ·rename_i g2
          exact ⟨m7, rfl, (by trivial), l7, fin m7 m7 m7 (Or.inl ⟨by omega, by omega, s7⟩) (Or.inr ⟨by omega, rfl⟩) (Or.inr ⟨by omega, rfl⟩)⟩
        ·rename_i g1
         exact ⟨m7, rfl, (by trivial), l7, fin m7 m7 m7 (Or.inl ⟨by omega, by omega, s7⟩) (Or.inr ⟨by omega, rfl⟩) (Or.inr ⟨by omega, rfl⟩)⟩
      ·rename_i f1
       rw [uAe]
       split
       ·rename_i g1
        rw [uAe]
        split
        ·rename_i g2
         refine ⟨m7, rfl, (by trivial), ⟨Mi, E, B, rfl, rfl, rfl, by omega, by omega, by omega, by omega, Eq.symm (l7), by omega⟩, fun _ d9 hr9 => ?_, trivial⟩
         obtain ⟨m9, _⟩ := d9
         obtain ⟨l9, s9⟩ := hr9
         exact ⟨m9, rfl, (by trivial), l9.trans (l7), fin m7 m7 m9 (Or.inl ⟨by omega, by omega, s7⟩) (Or.inr ⟨by omega, rfl⟩) (Or.inl ⟨by omega, by omega, s9⟩)⟩
        ·rename_i g2
         exact ⟨m7, rfl, (by trivial), l7, fin m7 m7 m7 (Or.inl ⟨by omega, by omega, s7⟩) (Or.inr ⟨by omega, rfl⟩) (Or.inr ⟨by omega, rfl⟩)⟩
       ·rename_i g1
        exact ⟨m7, rfl, (by trivial), l7, fin m7 m7 m7 (Or.inl ⟨by omega, by omega, s7⟩) (Or.inr ⟨by omega, rfl⟩) (Or.inr ⟨by omega, rfl⟩)⟩
     ·rename_i k2
      rw [uAe]
      split
      ·rename_i f1
       rw [uAe]
       split
       ·rename_i f2
        refine ⟨m, rfl, (by trivial), ⟨A, S, Mi, rfl, rfl, rfl, by omega, by omega, by omega, by omega, Eq.symm (rfl), by omega⟩, fun _ d8 hr8 => ?_, trivial⟩
        obtain ⟨m8, _⟩ := d8
        obtain ⟨l8, s8⟩ := hr8
        have l8' : m8.length = m.length := l8.trans (rfl)
        rw [uAe]
        split
        ·rename_i g1
         rw [uAe]
         split
         ·rename_i g2
          refine ⟨m8, rfl, (by trivial), ⟨Mi, E, B, rfl, rfl, rfl, by omega, by omega, by omega, by omega, Eq.symm (l8'), by omega⟩, fun _ d9 hr9 => ?_, trivial⟩
          obtain ⟨m9, _⟩ := d9
          obtain ⟨l9, s9⟩ := hr9
          exact ⟨m9, rfl, (by trivial), l9.trans (l8'), fin m m8 m9 (Or.inr ⟨by omega, rfl⟩) (Or.inl ⟨by omega, by omega, s8⟩) (Or.inl ⟨by omega, by omega, s9⟩)⟩
         ·rename_i g2
          exact ⟨m8, rfl, (by trivial), l8', fin m m8 m8 (Or.inr ⟨by omega, rfl⟩) (Or.inl ⟨by omega, by omega, s8⟩) (Or.inr ⟨by omega, rfl⟩)⟩
        ·rename_i g1
         exact ⟨m8, rfl, (by trivial), l8', fin m m8 m8 (Or.inr ⟨by omega, rfl⟩) (Or.inl ⟨by omega, by omega, s8⟩) (Or.inr ⟨by omega, rfl⟩)⟩
       ·rename_i f2
        rw [uAe]
        split
        ·rename_i g1
         rw [uAe]
         split
         ·rename_i g2
          refine ⟨m, rfl, (by trivial), ⟨Mi, E, B, rfl, rfl, rfl, by omega, by omega, by omega, by omega, Eq.symm (rfl), by omega⟩, fun _ d9 hr9 => ?_, trivial⟩
          obtain ⟨m9, _⟩ := d9
          obtain ⟨l9, s9⟩ := hr9
          exact ⟨m9, rfl, (by trivial), l9.trans (rfl), fin m m m9 (Or.inr ⟨by omega, rfl⟩) (Or.inr ⟨by omega, rfl⟩) (Or.inl ⟨by omega, by omega, s9⟩)⟩
         ·rename_i g2
          exact ⟨m, rfl, (by trivial), rfl, fin m m m (Or.inr ⟨by omega, rfl⟩) (Or.inr ⟨by omega, rfl⟩) (Or.inr ⟨by omega, rfl⟩)⟩
        ·rename_i g1
         exact ⟨m, rfl, (by trivial), rfl, fin m m m (Or.inr ⟨by omega, rfl⟩) (Or.inr ⟨by omega, rfl⟩) (Or.inr ⟨by omega, rfl⟩)⟩
      ·rename_i f1
       rw [uAe]
       split
       ·rename_i g1
        rw [uAe]
        split
        ·rename_i g2
         refine ⟨m, rfl, (by trivial), ⟨Mi, E, B, rfl, rfl, rfl, by omega, by omega, by omega, by omega, Eq.symm (rfl), by omega⟩, fun _ d9 hr9 => ?_, trivial⟩
         obtain ⟨m9, _⟩ := d9
         obtain ⟨l9, s9⟩ := hr9
         exact ⟨m9, rfl, (by trivial), l9.trans (rfl), fin m m m9 (Or.inr ⟨by omega, rfl⟩) (Or.inr ⟨by omega, rfl⟩) (Or.inl ⟨by omega, by omega, s9⟩)⟩
        ·rename_i g2
         exact ⟨m, rfl, (by trivial), rfl, fin m m m (Or.inr ⟨by omega, rfl⟩) (Or.inr ⟨by omega, rfl⟩) (Or.inr ⟨by omega, rfl⟩)⟩
       ·rename_i g1
        exact ⟨m, rfl, (by trivial), rfl, fin m m m (Or.inr ⟨by omega, rfl⟩) (Or.inr ⟨by omega, rfl⟩) (Or.inr ⟨by omega, rfl⟩)⟩
    ·rename_i k1
     rw [uAe]
     split
     ·rename_i f1
      rw [uAe]
      split
      ·rename_i f2
       refine ⟨m, rfl, (by trivial), ⟨A, S, Mi, rfl, rfl, rfl, by omega, by omega, by omega, by omega, Eq.symm (rfl), by omega⟩, fun _ d8 hr8 => ?_, trivial⟩
       obtain ⟨m8, _⟩ := d8
       obtain ⟨l8, s8⟩ := hr8
       have l8' : m8.length = m.length := l8.trans (rfl)
       rw [uAe]
       split
       ·rename_i g1
        rw [uAe]
        split
        ·rename_i g2
         refine ⟨m8, rfl, (by trivial), ⟨Mi, E, B, rfl, rfl, rfl, by omega, by omega, by omega, by omega, Eq.symm (l8'), by omega⟩, fun _ d9 hr9 => ?_, trivial⟩
         obtain ⟨m9, _⟩ := d9
         obtain ⟨l9, s9⟩ := hr9
         exact ⟨m9, rfl, (by trivial), l9.trans (l8'), fin m m8 m9 (Or.inr ⟨by omega, rfl⟩) (Or.inl ⟨by omega, by omega, s8⟩) (Or.inl ⟨by omega, by omega, s9⟩)⟩
        ·rename_i g2
         exact ⟨m8, rfl, (by trivial), l8', fin m m8 m8 (Or.inr ⟨by omega, rfl⟩) (Or.inl ⟨by omega, by omega, s8⟩) (Or.inr ⟨by omega, rfl⟩)⟩
       ·rename_i g1
        exact ⟨m8, rfl, (by trivial), l8', fin m m8 m8 (Or.inr ⟨by omega, rfl⟩) (Or.inl ⟨by omega, by omega, s8⟩) (Or.inr ⟨by omega, rfl⟩)⟩
      ·rename_i f2
       rw [uAe]
       split
       ·rename_i g1
        rw [uAe]
        split
        ·rename_i g2
         refine ⟨m, rfl, (by trivial), ⟨Mi, E, B, rfl, rfl, rfl, by omega, by omega, by omega, by omega, Eq.symm (rfl), by omega⟩, fun _ d9 hr9 => ?_, trivial⟩
         obtain ⟨m9, _⟩ := d9
         obtain ⟨l9, s9⟩ := hr9
         exact ⟨m9, rfl, (by trivial), l9.trans (rfl), fin m m m9 (Or.inr ⟨by omega, rfl⟩) (Or.inr ⟨by omega, rfl⟩) (Or.inl ⟨by omega, by omega, s9⟩)⟩
        ·rename_i g2
         exact ⟨m, rfl, (by trivial), rfl, fin m m m (Or.inr ⟨by omega, rfl⟩) (Or.inr ⟨by omega, rfl⟩) (Or.inr ⟨by omega, rfl⟩)⟩
       ·rename_i g1
        exact ⟨m, rfl, (by trivial), rfl, fin m m m (Or.inr ⟨by omega, rfl⟩) (Or.inr ⟨by omega, rfl⟩) (Or.inr ⟨by omega, rfl⟩)⟩
     ·rename_i f1
      rw [uAe]
      split
      ·rename_i g1
       rw [uAe]
       split
       ·rename_i g2
        refine ⟨m, rfl, (by trivial), ⟨Mi, E, B, rfl, rfl, rfl, by omega, by omega, by omega, by omega, Eq.symm (rfl), by omega⟩, fun _ d9 hr9 => ?_, trivial⟩
        obtain ⟨m9, _⟩ := d9
        obtain ⟨l9, s9⟩ := hr9
        exact ⟨m9, rfl, (by trivial), l9.trans (rfl), fin m m m9 (Or.inr ⟨by omega, rfl⟩) (Or.inr ⟨by omega, rfl⟩) (Or.inl ⟨by omega, by omega, s9⟩)⟩
       ·rename_i g2
        exact ⟨m, rfl, (by trivial), rfl, fin m m m (Or.inr ⟨by omega, rfl⟩) (Or.inr ⟨by omega, rfl⟩) (Or.inr ⟨by omega, rfl⟩)⟩
      ·rename_i g1
       exact ⟨m, rfl, (by trivial), rfl, fin m m m (Or.inr ⟨by omega, rfl⟩) (Or.inr ⟨by omega, rfl⟩) (Or.inr ⟨by omega, rfl⟩)⟩
theorem symCc : ∀ D, CcOk PP 68 (symK D)
 | 0 => uB4 mixed (K := KLS [] [] 54) (n := 0) (vm := false) (rw' := fun _ => false) (uCn (uAq)) rfl (fun z hp => ((fun (z : symZ) (h : uCi 0 z) => (by obtain ⟨⟨d, a, p, b, _, _⟩, m, _⟩ := z; obtain ⟨A, M, B, _, _, _, _, _, _, h, _⟩ := h; omega : False)) z hp).elim)
 | D + 1 => uB4 mixed (uCn (uAi cmpcCc (uAi rotCc (uAi (symCc D) (uAq))))) rfl (symStep D)
end Go.Proofs.YteehkdejkemnmacDoor
namespace Go.Proofs.YteehkdejkemnmacDoor
open Go.Det Go.RowKit
set_option maxRecDepth 100000
theorem ifp_leI {a b : Int} {x y : Prop} : ifp (uAf a b) x y = if a ≤ b then x else y := by
 by_cases h : a ≤ b
 ·rw [uAj (by rw [uCk]; simpa using h), if_pos h]
 ·rw [uDn (by rw [uCk]; simpa using h), if_neg h]
abbrev qStSt0 := (Nat × Nat) × Int × Unit × Int × Int × Int × Unit
abbrev st1Z := qStSt0 × ((List Cd) × Unit)
noncomputable def st1Sl : Tel qStSt0 := .cons 0 (.slq 0 4) (.ji 1 (.cons 2 (.fnp 45 []) (.ji 6 (.ji 7 (.ji 8 (.nil))))))
noncomputable def st1Bl : BTel ((List Cd) × Unit) := .cons (.rows Ec 54) (.nil)
noncomputable def st1Fs : List (LForm st1Z) := [⟨_, _, st1Sl, st1Bl, fun x y => (x, y)⟩]
abbrev qStS0 := (Nat × Nat) × Int × Unit × Int × Int × Unit
abbrev uE0 := (List Cd) × Unit
noncomputable def st1Alts (R0 : st1Z → qStS0 → uE0 → Prop) : List (Alt st1Z) := [⟨.exit 0, qStS0, uE0, .cons 0 (.slq 0 4) (.ji 1 (.cons 2 (.fnp 45 []) (.ji 6 (.ji 7 (.nil))))), .cons (.rows Ec 54) (.nil), R0⟩]
theorem st1Form (d : Nat × Nat) (n w a b : Int) (m : List Cd) (N : st1Z → Prop) (R0 : st1Z → qStS0 → uE0 → Prop) : ((runW PP (KLS [(67, insK)] [] 54) 100).code none 61 63 (uAd PP 61 2) (mkT (st1Sl.av id (d, n, (), w, a, b, ()))) [] (stL false (st1Bl.obs id (m, ()))) (uCh 1 st1Fs (st1Alts R0) ((d, n, (), w, a, b, ()), m, ()) N)) = ( ifp (uAf b n) (∃ l, Sa Ec m l ∧ true = true ∧ insPre ((d, a, b, (), ()), l, ()) ∧ (∀ c d_1, insR0 ((d, a, b, (), ()), l, ()) c d_1 → True ∧ ∃ l, Sa Ec d_1.1 l ∧ true = true ∧ N ((d, n, (), w, b, uAa .i64 (b.add w), ()), l, ())) ∧ True) (True ∧ ∃ l, Sa Ec m l ∧ true = true ∧ R0 ((d, n, (), w, a, b, ()), m, ()) (d, n, (), w, a, ()) (l, ()))) := by kernel_rfl
def st1Inv : st1Z → Prop := fun ((d, n, (), w, a, b, ()), m, ()) => ∃ A : Nat, a = A ∧ w = 20 ∧ b = ((A + 20 : Nat) : Int) ∧ n = (m.length : Int) ∧ A ≤ m.length ∧ d.1 = m.length ∧ m.length ≤ 1000000
def st1Mu : st1Z → Nat := fun ((d, n, (), w, a, b, ()), m, ()) => n.toNat + 21 - b.toNat
def st1R0 : st1Z → qStS0 → uE0 → Prop := fun ((d, n, (), w, a, b, ()), m, ()) (d2, n2, _, w2, a2, _) (m2, _) => d2 = d ∧ n2 = n ∧ w2 = w ∧ m2.length = m.length ∧ ∃ A2 : Nat, a2 = A2 ∧ A2 ≤ m.length ∧ m.length < A2 + 20 ∧ ∀ m3, Stab.SortR ltC m2 A2 m.length m3 → Stab.StR1 ltC 20 m a.toNat m3
noncomputable def st1C : uB5 := uC9 1 st1Fs (st1Alts st1R0) st1Inv
theorem st1Step : uA3 PP (KLS [(67, insK)] [] 54) 100 61 63 (uAd PP 61 2) 1 false st1Fs (st1Alts st1R0) st1Inv st1Mu ⟨_, _, st1Sl, st1Bl, fun x y => (x, y)⟩ := by
 intro x y hz
 obtain ⟨d, n, _, w, a, b, _⟩ := x
 obtain ⟨m, _⟩ := y
 refine (st1Form d n w a b m _ _).mpr ?_
 obtain ⟨A, rfl, rfl, rfl, rfl, hA, hd, hm⟩ := hz
 obtain ⟨d1, d2⟩ := d
 obtain rfl : d1 = m.length := hd
 rw [ifp_leI]
 split
 ·rename_i h
  have e1 : uAa .i64 (Int.add ((A + 20 : Nat) : Int) 20) = ((A + 20 + 20 : Nat) : Int) := by rw [wadd (by omega) (by omega)]; omega
  simp only [e1]
  refine ⟨m, rfl, (by trivial), ⟨A, A + 20, rfl, rfl, by omega, by omega, rfl, hm⟩, fun _ d3 hr => ?_, trivial⟩
  obtain ⟨m2, _⟩ := d3
  obtain ⟨l2, s2⟩ := hr
  replace l2 : m2.length = m.length := l2
  refine ⟨trivial, m2, rfl, (by trivial), ⟨A + 20, rfl, rfl, rfl, by rw [l2], by omega, l2.symm, by omega⟩, by show m.length + 21 - (A + 20 + 20) < m.length + 21 - (A + 20); omega, fun c d4 hr4 => ?_, trivial⟩
  obtain ⟨dd, n2, _, w2, a2, _⟩ := c
  obtain ⟨m4, _⟩ := d4
  obtain ⟨r1, r2, r3, r4, A2, r5, r6, r7, r8⟩ := hr4
  rw [l2] at r6 r7 r8
  exact ⟨r1, r2, r3, r4.trans l2, A2, r5, r6, r7, fun m3 h3 => Stab.StR1.step (by show A + 20 ≤ m.length; omega) s2 (r8 m3 h3)⟩
 ·rename_i h
  exact ⟨trivial, m, rfl, (by trivial), rfl, rfl, rfl, rfl, A, rfl, hA, by omega, fun m3 h3 => Stab.StR1.done (by show m.length < A + 20; omega) h3⟩
theorem st1Ok : uAs PP 61 63 (.loop (uAd PP 61 2)) (st1C) := uBf st1Mu  mixed (uCn (uAi insCc (uAq))) rfl (uAo st1Step (uAx))
abbrev st3Z := qStSt0 × uE0
noncomputable def st3Sl : Tel qStSt0 := .cons 0 (.slq 0 4) (.ji 1 (.cons 2 (.fnp 45 []) (.ji 6 (.ji 7 (.ji 8 (.nil))))))
noncomputable def st3Bl : BTel uE0 := .cons (.rows Ec 54) (.nil)
noncomputable def st3Fs : List (LForm st3Z) := [⟨_, _, st3Sl, st3Bl, fun x y => (x, y)⟩]
noncomputable def st3Alts (R0 : st3Z → qStS0 → uE0 → Prop) : List (Alt st3Z) := [⟨.exit 4, qStS0, uE0, .cons 0 (.slq 0 4) (.ji 1 (.cons 2 (.fnp 45 []) (.ji 6 (.ji 7 (.nil))))), .cons (.rows Ec 54) (.nil), R0⟩]
theorem st3Form (d : Nat × Nat) (n w a b : Int) (m : List Cd) (N : st3Z → Prop) (R0 : st3Z → qStS0 → uE0 → Prop) : ((runW PP (KLS [(68, symK 1000001)] [] 54) 100).code none 61 63 (uAd PP 61 9) (mkT (st3Sl.av id (d, n, (), w, a, b, ()))) [] (stL false (st3Bl.obs id (m, ()))) (uCh 1 st3Fs (st3Alts R0) ((d, n, (), w, a, b, ()), m, ()) N)) = ( ifp (uAf b n) (∃ l, Sa Ec m l ∧ true = true ∧ uCi 1000001 ((d, a, uAa .i64 (a.add w), b, (), ()), l, ()) ∧ (∀ c d_1, uEz ((d, a, uAa .i64 (a.add w), b, (), ()), l, ()) c d_1 → True ∧ ∃ l, Sa Ec d_1.1 l ∧ true = true ∧ N ((d, n, (), w, b, uAa .i64 (b.add (uAa .i64 (Int.mul 2 w))), ()), l, ())) ∧ True) (True ∧ ∃ l, Sa Ec m l ∧ true = true ∧ R0 ((d, n, (), w, a, b, ()), m, ()) (d, n, (), w, a, ()) (l, ()))) := by kernel_rfl
def st3Inv : st3Z → Prop := fun ((d, n, (), w, a, b, ()), m, ()) => ∃ A W : Nat, a = A ∧ w = W ∧ 0 < W ∧ W ≤ 1000000 ∧ b = ((A + 2 * W : Nat) : Int) ∧ n = (m.length : Int) ∧ A ≤ m.length ∧ d.1 = m.length ∧ m.length ≤ 1000000
def st3Mu : st3Z → Nat := fun ((d, n, (), w, a, b, ()), m, ()) => n.toNat + 2 * w.toNat + 1 - b.toNat
def st3R0 : st3Z → qStS0 → uE0 → Prop := fun ((d, n, (), w, a, b, ()), m, ()) (d2, n2, _, w2, a2, _) (m2, _) => d2 = d ∧ n2 = n ∧ w2 = w ∧ m2.length = m.length ∧ ∃ A2 : Nat, a2 = A2 ∧ A2 ≤ m.length ∧ m.length < A2 + 2 * w.toNat ∧ ∀ m3, Stab.PassR ltC w.toNat m2 A2 m3 → Stab.PassR ltC w.toNat m a.toNat m3
noncomputable def st3C : uB5 := uC9 1 st3Fs (st3Alts st3R0) st3Inv
theorem st3Step : uA3 PP (KLS [(68, symK 1000001)] [] 54) 100 61 63 (uAd PP 61 9) 1 false st3Fs (st3Alts st3R0) st3Inv st3Mu ⟨_, _, st3Sl, st3Bl, fun x y => (x, y)⟩ := by
 intro x y hz
 obtain ⟨d, n, _, w, a, b, _⟩ := x
 obtain ⟨m, _⟩ := y
 refine (st3Form d n w a b m _ _).mpr ?_
 obtain ⟨A, W, rfl, rfl, hW, hW2, rfl, rfl, hA, hd, hm⟩ := hz
 obtain ⟨d1, d2⟩ := d
 obtain rfl : d1 = m.length := hd
 rw [ifp_leI]
 split
 ·rename_i h
  have e0 : uAa .i64 (Int.mul 2 (W : Int)) = ((2 * W : Nat) : Int) := by rw [w64 (by show _ ≤ 2 * (W : Int); omega) (by show 2 * (W : Int) < _; omega)]; show 2 * (W : Int) = _; omega
  have e1 : uAa .i64 (Int.add ((A + 2 * W : Nat) : Int) ((2 * W : Nat) : Int)) = ((A + 2 * W + 2 * W : Nat) : Int) := by rw [wadd (by omega) (by omega)]; omega
  have e2 : uAa .i64 (Int.add (A : Int) (W : Int)) = ((A + W : Nat) : Int) := by rw [wadd (by omega) (by omega)]; omega
  simp only [e0, e1, e2]
  refine ⟨m, rfl, (by trivial), ⟨A, A + W, A + 2 * W, rfl, rfl, rfl, by omega, by omega, by omega, by omega, rfl, hm⟩, fun _ d3 hr => ?_, trivial⟩
  obtain ⟨m2, _⟩ := d3
  obtain ⟨l2, s2⟩ := hr
  replace l2 : m2.length = m.length := l2
  refine ⟨trivial, m2, rfl, (by trivial), ⟨A + 2 * W, W, rfl, rfl, hW, hW2, rfl, by rw [l2], by omega, l2.symm, by omega⟩, by show m.length + 2 * W + 1 - (A + 2 * W + 2 * W) < m.length + 2 * W + 1 - (A + 2 * W); omega, fun c d4 hr4 => ?_, trivial⟩
  obtain ⟨dd, n2, _, w2, a2, _⟩ := c
  obtain ⟨m4, _⟩ := d4
  obtain ⟨r1, r2, r3, r4, A2, r5, r6, r7, r8⟩ := hr4
  rw [l2] at r6 r7
  exact ⟨r1, r2, r3, r4.trans l2, A2, r5, r6, r7, fun m3 h3 => Stab.PassR.step weakC (by show A + 2 * W ≤ m.length; omega) s2 (r8 m3 h3)⟩
 ·rename_i h
  exact ⟨trivial, m, rfl, (by trivial), rfl, rfl, rfl, rfl, A, rfl, hA, by show m.length < A + 2 * W; omega, fun m3 h3 => h3⟩
theorem st3Ok : uAs PP 61 63 (.loop (uAd PP 61 9)) (st3C) := uBf st3Mu  mixed (uCn (uAi (symCc 1000001) (uAq))) rfl (uAo st3Step (uAx))
abbrev st2Z := ((Nat × Nat) × Int × Unit × Int × Unit) × uE0
noncomputable def st2Sl : Tel ((Nat × Nat) × Int × Unit × Int × Unit) := .cons 0 (.slq 0 4) (.ji 1 (.cons 2 (.fnp 45 []) (.ji 6 (.nil))))
noncomputable def st2Bl : BTel uE0 := .cons (.rows Ec 54) (.nil)
noncomputable def st2Fs : List (LForm st2Z) := [⟨_, _, st2Sl, st2Bl, fun x y => (x, y)⟩]
noncomputable def st2Alts (R0 : st2Z → (Unit) → uE0 → Prop) : List (Alt st2Z) := [⟨.exit 2, Unit, uE0, .nil, .cons (.rows Ec 54) (.nil), R0⟩]
theorem st2Form (d : Nat × Nat) (n w : Int) (m : List Cd) (N : st2Z → Prop) (R0 : st2Z → (Unit) → uE0 → Prop) : ((runW PP (KLS [(68, symK 1000001)] [(61, [(9, st3C)])] 54) 100).code none 61 63 (uAd PP 61 7) (mkT (st2Sl.av id (d, n, (), w, ()))) [] (stL false (st2Bl.obs id (m, ()))) (uCh 1 st2Fs (st2Alts R0) ((d, n, (), w, ()), m, ()) N)) = ( ifp (!uAf n w) (uAs PP 61 63 (uAd PP 61 9).loop st3C ∧ True ∧ True ∧ ∃ l, Sa Ec m l ∧ true = true ∧ st3Inv ((d, n, (), w, 0, uAa .i64 (Int.mul 2 w), ()), l, ()) ∧ (∀ c d_1, st3R0 ((d, n, (), w, 0, uAa .i64 (Int.mul 2 w), ()), l, ()) c d_1 → ifp (!uAf c.2.1 (uAa .i64 (c.2.2.2.2.1.add c.2.2.2.1))) (∃ l, Sa Ec d_1.1 l ∧ true = true ∧ uCi 1000001 ((c.1, c.2.2.2.2.1, uAa .i64 (c.2.2.2.2.1.add c.2.2.2.1), c.2.1, (), ()), l, ()) ∧ (∀ c_1 d, uEz ((c.1, c.2.2.2.2.1, uAa .i64 (c.2.2.2.2.1.add c.2.2.2.1), c.2.1, (), ()), l, ()) c_1 d → True ∧ ∃ l, Sa Ec d.1 l ∧ true = true ∧ N ((c.1, c.2.1, (), uAa .i64 (c.2.2.2.1.mul 2), ()), l, ())) ∧ True) (True ∧ ∃ l, Sa Ec d_1.1 l ∧ true = true ∧ N ((c.1, c.2.1, (), uAa .i64 (c.2.2.2.1.mul 2), ()), l, ()))) ∧ True) (True ∧ ∃ l, Sa Ec m l ∧ true = true ∧ R0 ((d, n, (), w, ()), m, ()) () (l, ()))) := by kernel_rfl
def st2Inv : st2Z → Prop := fun ((d, n, (), w, ()), m, ()) => ∃ W : Nat, w = W ∧ 0 < W ∧ W ≤ 2000000 ∧ n = (m.length : Int) ∧ d.1 = m.length ∧ m.length ≤ 1000000
def st2Mu : st2Z → Nat := fun ((d, n, (), w, ()), m, ()) => n.toNat - w.toNat
def st2R0 : st2Z → (Unit) → uE0 → Prop := fun ((d, n, (), w, ()), m, ()) _ (m2, _) => m2.length = m.length ∧ Stab.StR2 ltC w.toNat m m2
noncomputable def st2C : uB5 := uC9 1 st2Fs (st2Alts st2R0) st2Inv
theorem st2Step : uA3 PP (KLS [(68, symK 1000001)] [(61, [(9, st3C)])] 54) 100 61 63 (uAd PP 61 7) 1 false st2Fs (st2Alts st2R0) st2Inv st2Mu ⟨_, _, st2Sl, st2Bl, fun x y => (x, y)⟩ := by
 intro x y hz
 obtain ⟨d, n, _, w, _⟩ := x
 obtain ⟨m, _⟩ := y
 refine (st2Form d n w m _ _).mpr ?_
 obtain ⟨W, rfl, hW, hW2, rfl, hd, hm⟩ := hz
 obtain ⟨d1, d2⟩ := d
 obtain rfl : d1 = m.length := hd
 rw [uAe]
 split
 ·rename_i h
  have e0 : uAa .i64 (Int.mul 2 (W : Int)) = ((0 + 2 * W : Nat) : Int) := by rw [w64 (by show _ ≤ 2 * (W : Int); omega) (by show 2 * (W : Int) < _; omega)]; show 2 * (W : Int) = _; omega
  refine ⟨st3Ok, trivial, trivial, m, rfl, (by trivial), ⟨0, W, rfl, rfl, hW, by omega, e0, rfl, Nat.zero_le _, rfl, hm⟩, fun c d3 hr => ?_, trivial⟩
  obtain ⟨dd, n2, _, w2, a2, _⟩ := c
  obtain ⟨m2, _⟩ := d3
  obtain ⟨r1, r2, r3, r4, A2, r5, r6, r7, r8⟩ := hr
  obtain rfl : dd = (m.length, d2) := r1
  obtain rfl : n2 = (m.length : Int) := r2
  obtain rfl : w2 = (W : Int) := r3
  obtain rfl : a2 = (A2 : Int) := r5
  replace r4 : m2.length = m.length := r4
  replace r7 : m.length < A2 + 2 * W := r7
  have e1 : uAa .i64 (Int.add (A2 : Int) (W : Int)) = ((A2 + W : Nat) : Int) := by rw [wadd (by omega) (by omega)]; omega
  have e2 : uAa .i64 (Int.mul (W : Int) 2) = ((2 * W : Nat) : Int) := by rw [w64 (by show _ ≤ (W : Int) * 2; omega) (by show (W : Int) * 2 < _; omega)]; show (W : Int) * 2 = _; omega
  simp only [e1, e2]
  rw [uAe]
  split
  ·rename_i h2
   refine ⟨m2, rfl, (by trivial), ⟨A2, A2 + W, m.length, rfl, rfl, rfl, by omega, by omega, by omega, by omega, r4.symm, by omega⟩, fun _ d4 hr4 => ?_, trivial⟩
   obtain ⟨m3, _⟩ := d4
   obtain ⟨l3, s3⟩ := hr4
   have l3' : m3.length = m.length := l3.trans r4
   refine ⟨trivial, m3, rfl, (by trivial), ⟨2 * W, rfl, by omega, by omega, by rw [l3'], l3'.symm, by omega⟩, by show m.length - 2 * W < m.length - W; omega, fun _ d5 hr5 => ⟨hr5.1.trans l3', Stab.StR2.step (r8 m3 (Stab.PassR.part weakC (by rw [r4]; exact r7) (by rw [r4]; show A2 + W < m.length; omega) (by rw [r4]; exact s3))) hr5.2⟩, trivial⟩
  ·rename_i h2
   refine ⟨trivial, m2, rfl, (by trivial), ⟨2 * W, rfl, by omega, by omega, by rw [r4], r4.symm, by omega⟩, by show m.length - 2 * W < m.length - W; omega, fun _ d5 hr5 => ⟨hr5.1.trans r4, Stab.StR2.step (r8 m2 (Stab.PassR.none weakC (by rw [r4]; show m.length ≤ A2 + W; omega))) hr5.2⟩, trivial⟩
 ·rename_i h
  exact ⟨trivial, m, rfl, (by trivial), rfl, Stab.StR2.done (by show m.length ≤ W; omega)⟩
theorem st2Ok : uAs PP 61 63 (.loop (uAd PP 61 7)) (st2C) := uBf st2Mu  mixed (uCn (uAi (symCc 1000001) (uAq))) rfl (uAo st2Step (uAx))
abbrev stabZ := ((Nat × Nat) × Int × Unit × Unit) × uE0
noncomputable def stabT : Tel ((Nat × Nat) × Int × Unit × Unit) := .cons 0 (.slq 0 4) (.ji 1 (.cons 2 (.fnp 45 []) (.nil)))
noncomputable def stabBl : BTel uE0 := .cons (.rows Ec 54) (.nil)
noncomputable def stabRes (R0 : stabZ → (Unit) → uE0 → Prop) : List (Res stabZ) := [⟨Unit, uE0, .nil, .cons (.rows Ec 54) (.nil), R0⟩]
theorem stabFn (d : Nat × Nat) (n : Int) (m : List Cd) (R0 : stabZ → (Unit) → uE0 → Prop) : (uA2 PP (runW PP (KLS [(67, insK), (68, symK 1000001)] [(61, [(2, st1C), (7, st2C)])] 54) 200) 61 (stabT.cells id (d, n, (), ())) (stL false (stabBl.obs id (m, ()))) (fun v st => uA1 1 ((d, n, (), ()), m, ()) v st (stabRes R0))) = ( uAs PP 61 63 (uAd PP 61 2).loop st1C ∧ True ∧ True ∧ ∃ l, Sa Ec m l ∧ true = true ∧ st1Inv ((d, n, (), 20, 0, 20, ()), l, ()) ∧ (∀ c d_1, st1R0 ((d, n, (), 20, 0, 20, ()), l, ()) c d_1 → ∃ l, Sa Ec d_1.1 l ∧ true = true ∧ insPre ((c.1, c.2.2.2.2.1, c.2.1, (), ()), l, ()) ∧ (∀ c_1 d_2, insR0 ((c.1, c.2.2.2.2.1, c.2.1, (), ()), l, ()) c_1 d_2 → uAs PP 61 63 (uAd PP 61 7).loop st2C ∧ True ∧ True ∧ ∃ l, Sa Ec d_2.1 l ∧ true = true ∧ st2Inv ((c.1, c.2.1, (), c.2.2.2.1, ()), l, ()) ∧ (∀ c_2 d_3, st2R0 ((c.1, c.2.1, (), c.2.2.2.1, ()), l, ()) c_2 d_3 → ∃ l, Sa Ec d_3.1 l ∧ true = true ∧ R0 ((d, n, (), ()), m, ()) () (l, ())) ∧ True) ∧ True) ∧ True) := by kernel_rfl
def stabPre : stabZ → Prop := fun ((d, n, (), ()), m, ()) => n = (m.length : Int) ∧ d.1 = m.length ∧ m.length ≤ 1000000
def stabR0 : stabZ → (Unit) → uE0 → Prop := fun ((d, n, (), ()), m, ()) _ (m2, _) => m2 = Stab.sort ltC m
noncomputable def stabK : uA6 := uD4 1 stabT stabBl stabPre (stabRes stabR0)
theorem stabStep (z : stabZ) (hp : stabPre z) : uA2 PP (runW PP (KLS [(67, insK), (68, symK 1000001)] [(61, [(2, st1C), (7, st2C)])] 54) 200) 61 (stabT.cells id z.1) (stL false (stabBl.obs id z.2)) (fun v st => uA1 1 z v st (stabRes stabR0)) := by
 obtain ⟨⟨d, n, _, _⟩, ⟨m, _⟩⟩ := z
 refine (stabFn d n m _).mpr ?_
 obtain ⟨rfl, hd, hm⟩ := hp
 obtain ⟨d1, d2⟩ := d
 obtain rfl : d1 = m.length := hd
 refine ⟨st1Ok, trivial, trivial, m, rfl, (by trivial), ⟨0, rfl, rfl, rfl, rfl, Nat.zero_le _, rfl, hm⟩, fun c d3 hr => ?_, trivial⟩
 obtain ⟨dd, n2, _, w2, a2, _⟩ := c
 obtain ⟨m2, _⟩ := d3
 obtain ⟨r1, r2, r3, r4, A2, r5, r6, r7, r8⟩ := hr
 obtain rfl : dd = (m.length, d2) := r1
 obtain rfl : n2 = (m.length : Int) := r2
 obtain rfl : w2 = 20 := r3
 obtain rfl : a2 = (A2 : Int) := r5
 replace r4 : m2.length = m.length := r4
 refine ⟨m2, rfl, (by trivial), ⟨A2, m.length, rfl, rfl, r6, by omega, r4.symm, by omega⟩, fun _ d4 hr4 => ?_, trivial⟩
 obtain ⟨m3, _⟩ := d4
 obtain ⟨l3, s3⟩ := hr4
 replace l3 : m3.length = m.length := l3.trans r4
 refine ⟨st2Ok, trivial, trivial, m3, rfl, (by trivial), ⟨20, rfl, by omega, by omega, by rw [l3], l3.symm, by omega⟩, fun _ d5 hr5 => ?_, trivial⟩
 obtain ⟨m5, _⟩ := d5
 obtain ⟨l5, s5⟩ := hr5
 refine ⟨m5, rfl, (by trivial), ?_⟩
 obtain ⟨R', q1, q2⟩ := r8 m3 s3 [] m rfl rfl
 obtain rfl : m3 = R' := q1
 exact s5 m q2
theorem stabCc : CcOk PP 61 stabK := uB4 mixed (uCn (uAi insCc (uAi (symCc 1000001) (uAq)))) rfl stabStep
abbrev sstabZ := ((Nat × Nat) × Unit × Unit) × uE0
noncomputable def sstabT : Tel ((Nat × Nat) × Unit × Unit) := .cons 0 (.slq 0 4) (.cons 1 (.fnp 45 []) (.nil))
noncomputable def sstabBl : BTel uE0 := .cons (.rows Ec 54) (.nil)
noncomputable def sstabRes (R0 : sstabZ → (Unit) → uE0 → Prop) : List (Res sstabZ) := [⟨Unit, uE0, .nil, .cons (.rows Ec 54) (.nil), R0⟩]
theorem sstabFn (d : Nat × Nat) (m : List Cd) (R0 : sstabZ → (Unit) → uE0 → Prop) : (uA2 PP (runW PP (KLS [(61, stabK)] [] 54) 200) 44 (sstabT.cells id (d, (), ())) (stL false (sstabBl.obs id (m, ()))) (fun v st => uA1 1 ((d, (), ()), m, ()) v st (sstabRes R0))) = ( ∃ l, Sa Ec m l ∧ true = true ∧ stabPre ((d, Int.ofNat d.1, (), ()), l, ()) ∧ (∀ c d_1, stabR0 ((d, Int.ofNat d.1, (), ()), l, ()) c d_1 → ∃ l, Sa Ec d_1.1 l ∧ true = true ∧ R0 ((d, (), ()), m, ()) () (l, ())) ∧ True) := by kernel_rfl
def sstabPre : sstabZ → Prop := fun ((d, (), ()), m, ()) => d.1 = m.length ∧ m.length ≤ 1000000
def sstabR0 : sstabZ → (Unit) → uE0 → Prop := fun ((d, (), ()), m, ()) _ (m2, _) => m2 = Stab.sort ltC m
noncomputable def sstabK : uA6 := uD4 1 sstabT sstabBl sstabPre (sstabRes sstabR0)
theorem sstabStep (z : sstabZ) (hp : sstabPre z) : uA2 PP (runW PP (KLS [(61, stabK)] [] 54) 200) 44 (sstabT.cells id z.1) (stL false (sstabBl.obs id z.2)) (fun v st => uA1 1 z v st (sstabRes sstabR0)) := by
 obtain ⟨⟨d, _, _⟩, ⟨m, _⟩⟩ := z
 refine (sstabFn d m _).mpr ?_
 obtain ⟨hd, hm⟩ := hp
 obtain ⟨d1, d2⟩ := d
 obtain rfl : d1 = m.length := hd
 refine ⟨m, rfl, (by trivial), ⟨rfl, rfl, hm⟩, fun _ d3 hr => ?_, trivial⟩
 obtain ⟨m2, _⟩ := d3
 exact ⟨m2, rfl, (by trivial), hr⟩
theorem sstabCc : CcOk PP 44 sstabK := uB4 mixed (uCn (uAi stabCc (uAq))) rfl sstabStep
end Go.Proofs.YteehkdejkemnmacDoor
namespace Go.Proofs.YteehkdejkemnmacDoor
open Go.Det Go.RowKit
set_option maxRecDepth 100000
abbrev Near := Int × Int × Unit
abbrev En : Enc Near := Enc.pair (Enc.int .i64) (Enc.pair (Enc.int .i64) Enc.unit)
def ordV (a b : Near) : Int := if cmpV a.1 b.1 ≠ 0 then cmpV a.1 b.1 else cmpV a.2.1 b.2.1
def uBs (a b : Near) : Bool := decide (ordV a b < 0)
noncomputable def orderT : Tel (Near × Near × Unit) := .cons 0 (.agg En) (.cons 1 (.agg En) (.nil))
theorem orderFn (a b : Near) (Q : AV → Prop) : (uA2 PP (runW PP (KL [(47, cmpK)] []) 200) 50 (orderT.cells id (a, b, ())) (stE false) (fun x st => frzW st x Q)) = ( cmpPre (a.1, b.1, ()) ∧ cmpPre (a.2.1, b.2.1, ()) ∧ uAp 0 2 ∧ ifp (!uA0 (cmpV a.1 b.1) 0) (True ∧ True ∧ (I64 a.2.1 = I64 a.2.1 ∧ True) ∧ (I64 b.2.1 = I64 b.2.1 ∧ True) ∧ Q (I64 (cmpV a.1 b.1))) (uAp (uAa .i64 (Int.add 0 1)) 2 ∧ ifp (!uA0 (cmpV a.2.1 b.2.1) 0) (True ∧ True ∧ (I64 a.2.1 = I64 a.2.1 ∧ True) ∧ (I64 b.2.1 = I64 b.2.1 ∧ True) ∧ Q (I64 (cmpV a.2.1 b.2.1))) (True ∧ True ∧ (I64 a.2.1 = I64 a.2.1 ∧ True) ∧ (I64 b.2.1 = I64 b.2.1 ∧ True) ∧ Q (I64 0)))) := by kernel_rfl
def orderPre : Near × Near × Unit → Prop := fun (a, b, ()) => True
noncomputable def orderRes : Near × Near × Unit → AV := fun (a, b, ()) => .int .i64 (ordV a b)
noncomputable def orderK : uA6 := valC orderT orderPre orderRes
theorem orderVal (a : Near) (b : Near) (hp : orderPre (a, b, ())) : Val PP 50 (orderT.cells id (a, b, ())) (orderRes (a, b, ())) := by
 refine Val.ofF mixed (uC8 (uAi cmpCc (uAq))) (uDa rfl _) (orderFn a b) ?_
 refine ⟨trivial, trivial, uA8 (by decide), ?_⟩
 rw [uBu]
 split
 ·rename_i h
  refine ⟨⟨by decide, by decide⟩, ?_⟩
  rw [uBu]
  split
  ·rename_i h2
   exact ⟨trivial, trivial, ⟨rfl, trivial⟩, ⟨rfl, trivial⟩, uAr (by rw [ordV, if_neg (by omega), h2])⟩
  ·exact ⟨trivial, trivial, ⟨rfl, trivial⟩, ⟨rfl, trivial⟩, uAr (by rw [ordV, if_neg (by omega)])⟩
 ·rename_i h
  exact ⟨trivial, trivial, ⟨rfl, trivial⟩, ⟨rfl, trivial⟩, uAr (by rw [ordV, if_pos h])⟩
theorem orderCc : CcOk PP 50 orderK := uC2 rfl (fun ⟨a, ⟨b, _⟩⟩ h => orderVal a b h)
noncomputable def lessT : Tel (Near × Near × Unit) := .cons 0 (.agg En) (.cons 1 (.agg En) (.nil))
theorem lessFn (a b : Near) (Q : AV → Prop) : (uA2 PP (runW PP (KL [(50, orderK)] []) 200) 37 (lessT.cells id (a, b, ())) (stE false) (fun x st => frzW st x Q)) = ( ∃ (a_1 : Near), AV.agg [I64 a.1, I64 a.2.1] = AV.agg [I64 a_1.1, I64 a_1.2.1] ∧ ∃ (a : Near), AV.agg [I64 b.1, I64 b.2.1] = AV.agg [I64 a.1, I64 a.2.1] ∧ orderPre (a_1, a, ()) ∧ ifp (!uAf 0 (ordV a_1 a)) (Q (AV.bool true)) (Q (AV.bool false))) := by kernel_rfl
def lessPre : Near × Near × Unit → Prop := fun (a, b, ()) => True
noncomputable def lessRes : Near × Near × Unit → AV := fun (a, b, ()) => .bool (uBs a b)
noncomputable def lessK : uA6 := valC lessT lessPre lessRes
theorem lessVal (a : Near) (b : Near) (hp : lessPre (a, b, ())) : Val PP 37 (lessT.cells id (a, b, ())) (lessRes (a, b, ())) := by
 refine Val.ofF mixed (uC8 (uAi orderCc (uAq))) (uDa rfl _) (lessFn a b) ?_
 refine ⟨a, rfl, b, rfl, trivial, ?_⟩
 rw [uAe]
 split
 ·rename_i h; exact uBk (by rw [uBs, decide_eq_true h])
 ·rename_i h; exact uBk (by rw [uBs, decide_eq_false h])
theorem lessCc : CcOk PP 37 lessK := uC2 rfl (fun ⟨a, ⟨b, _⟩⟩ h => lessVal a b h)
theorem ordV_lt {a b : Near} : ordV a b < 0 ↔ a.1 < b.1 ∨ a.1 = b.1 ∧ a.2.1 < b.2.1 := by
 unfold ordV cmpV; split <;> (repeat' split) <;> omega
theorem uD2 {a b : Near} : uBs a b = true ↔ a.1 < b.1 ∨ a.1 = b.1 ∧ a.2.1 < b.2.1 := by rw [uBs, decide_eq_true_iff, ordV_lt]
theorem near_get : ∀ (l : List Near) (k j : Nat) (h : k < l.length), j < 2 → (l.flatMap En.f)[k * 2 + j]? = (En.f l[k])[j]?
 | [], k, j, h, _ => by simp at h
 | a :: l, 0, j, h, hj => by
  rw [List.flatMap_cons, List.getElem?_append_left (by rw [En.len]; show 0 * 2 + j < 2; omega)]; simp
 | a :: l, k + 1, j, h, hj => by
  rw [List.flatMap_cons, List.getElem?_append_right (by rw [En.len]; show 2 ≤ (k + 1) * 2 + j; omega), En.len, show (k + 1) * 2 + j - En.e = k * 2 + j by show (k + 1) * 2 + j - 2 = _; omega]
  exact near_get l k j (by simpa using h) hj
theorem uCy {l : List Near} {k : Nat} (h : k < l.length) : nth (Nat.add (Nat.mul k 2) 0) (l.flatMap En.f) = some (.int .i64 l[k].1) := by rw [uDk]; exact near_get l k 0 h (by decide)
theorem uD1 {l : List Near} {k : Nat} (h : k < l.length) : nth (Nat.add (Nat.mul k 2) 1) (l.flatMap En.f) = some (.int .i64 l[k].2.1) := by rw [uDk]; exact near_get l k 1 h (by decide)
theorem near_snoc {l : List Near} {x : Near} : l.flatMap En.f ++ [AV.int .i64 x.1, AV.int .i64 x.2.1] = (l ++ [x]).flatMap En.f := by rw [List.flatMap_append]; rfl
theorem uEp (l : List Near) : (l.flatMap En.f).length = l.length * 2 := En.flen l
open Go.Sort Go.Shelf in
theorem sorts : Sorts PP 49 50 En (fun x => [.int .i64 x.1, .int .i64 x.2.1]) ordV := by
  have swo : SWO (Go.Proofs.ltOf ordV) := by
    have e : ∀ x y, Go.Proofs.ltOf ordV x y = uBs x y := fun _ _ => rfl
    refine ⟨fun x => ?_, fun x y z h1 h2 => ?_, fun x y z h1 h2 => ?_⟩
    · rw [e, ← Bool.not_eq_true, uD2]; omega
    · rw [e, uD2] at *; omega
    · rw [e, ← Bool.not_eq_true, uD2] at *; omega
  have tot : ∀ x y, Go.Proofs.ltOf ordV x y = false → Go.Proofs.ltOf ordV y x = false → x = y := fun x y h1 h2 => by
    have e : ∀ x y, Go.Proofs.ltOf ordV x y = uBs x y := fun _ _ => rfl
    rw [e, ← Bool.not_eq_true, uD2] at h1 h2
    obtain ⟨a, b, _⟩ := x
    obtain ⟨c, d, _⟩ := y
    simp only at h1 h2
    rw [show a = c by omega, show b = d by omega]
  exact
  { to := fun ρ x => .cons (.int _ _) (.cons (.int _ _) .nil)
    from' := fun ρ x l h => by cases h with | cons h1 t => cases t with | cons h2 t => cases t; cases h1; cases h2; rfl
    enter := enters_of Tryd.func49 (by kernel_rfl) rfl
    val := fun x y => orderVal x y trivial
    some' := fun blk off cap d w hc hH hb hs => AnyQ.slices_SortFunc_total Tryd.sort49 2 Tryd.isAgg46 Tryd.sizeOf46 _ (fun _ => rfl) (fun x v hv => by simp at hv; rcases hv with rfl | rfl <;> rfl) ordV swo _ #[] blk off cap d w (enters_of Tryd.func50 (by kernel_rfl) rfl) hc hH hb hs tot
    none' := fun p cap fv w => AnyF.slices_SortFunc_none { Tryd.sort49 with } p cap fv w }
def uBq (l : List Near) : List Near := l.mergeSort fun x y => !uBs y x
theorem nearSort_len (l : List Near) : (uBq l).length = l.length := List.length_mergeSort l
noncomputable def sortK : uA6 := sortC En 46 50 uBq
theorem sortCc : CcOk PP 49 sortK := sort_ok sorts (fun _ => rfl) 46
open Hp in
theorem uDm : Lt uBs where
 irr a := by rw [← Bool.not_eq_true, uD2]; omega
 tr a b c h1 h2 := by rw [uD2] at *; omega
 tot a b h1 h2 := by
  rw [← Bool.not_eq_true, uD2] at h1 h2
  obtain ⟨a1, a2, _⟩ := a
  obtain ⟨b1, b2, _⟩ := b
  simp only at h1 h2
  rw [show a1 = b1 by omega, show a2 = b2 by omega]
theorem uBm {l : List Near} {k : Nat} (h : k < l.length) : nth (Nat.add (Nat.add 0 (Nat.mul k 2)) 0) (l.flatMap En.f) = some (.int .i64 l[k].1) := by rw [show Nat.add 0 (Nat.mul k 2) = Nat.mul k 2 from Nat.zero_add _]; exact uCy h
theorem uBl {l : List Near} {k : Nat} (h : k < l.length) : nth (Nat.add (Nat.add 0 (Nat.mul k 2)) 1) (l.flatMap En.f) = some (.int .i64 l[k].2.1) := by rw [show Nat.add 0 (Nat.mul k 2) = Nat.mul k 2 from Nat.zero_add _]; exact uD1 h
theorem near_take : ∀ (l : List Near) (k : Nat), (l.flatMap En.f).take (k * 2) = (l.take k).flatMap En.f
 | [], k => by simp
 | a :: l, 0 => by simp
 | a :: l, k + 1 => by
  rw [show (k + 1) * 2 = k * 2 + 1 + 1 by omega, List.take_succ_cons, List.flatMap_cons, List.flatMap_cons, ← near_take l k]
  show List.take (k * 2 + 1 + 1) (_ :: _ :: _) = _ :: _ :: _
  rw [List.take_succ_cons, List.take_succ_cons]; rfl
theorem near_drop : ∀ (l : List Near) (k : Nat), (l.flatMap En.f).drop (k * 2) = (l.drop k).flatMap En.f
 | [], k => by simp
 | a :: l, 0 => by simp
 | a :: l, k + 1 => by
  rw [show (k + 1) * 2 = k * 2 + 1 + 1 by omega, List.drop_succ_cons, List.flatMap_cons, ← near_drop l k]
  show List.drop (k * 2 + 1 + 1) (_ :: _ :: _) = _
  rw [List.drop_succ_cons, List.drop_succ_cons]; rfl
theorem uDt {l : List Near} {k : Nat} {x : Near} (h : k < l.length) : setAt (Nat.add 0 (Nat.mul k 2)) [AV.int .i64 x.1, AV.int .i64 x.2.1] (l.flatMap En.f) = (l.set k x).flatMap En.f := by
 rw [show Nat.add 0 (Nat.mul k 2) = k * 2 from Nat.zero_add _, setAt, near_take]
 show _ ++ _ ++ List.drop (k * 2 + 2) _ = _
 rw [show k * 2 + 2 = (k + 1) * 2 by omega, near_drop, List.set_eq_take_append_cons_drop, if_pos h, List.flatMap_append, List.flatMap_cons, List.append_assoc]; rfl
theorem near_fit {l : List Near} {k n : Nat} (h : k < n) (hn : l.length = n) : (Nat.add 0 (Nat.mul k 2)).add 2 ≤ (l.flatMap En.f).length := by
 rw [uEp, show Nat.add 0 (Nat.mul k 2) = k * 2 from Nat.zero_add _]; show k * 2 + 2 ≤ _; omega
theorem half {k : Nat} (h0 : 0 < k) (hk : k ≤ 1000000) : uAa .i64 (Int.tdiv (uAa .i64 (Int.sub (k : Int) 1)) 2) = (((k - 1) / 2 : Nat) : Int) := by
 have e : uAa .i64 (Int.sub (k : Int) 1) = ((k - 1 : Nat) : Int) := by rw [w64 (by show _ ≤ (k : Int) - 1; omega) (by show (k : Int) - 1 < _; omega)]; show (k : Int) - 1 = _; omega
 rw [e, show Int.tdiv ((k - 1 : Nat) : Int) 2 = (((k - 1) / 2 : Nat) : Int) from rfl, w64 (by omega) (by omega)]
def posV (l : List Near) (n : Near) : Nat → Nat
 | 0 => 0
 | k + 1 => if uBs n (l.getD k n) = true then posV l n k else k + 1
def insV (l : List Near) (n : Near) : List Near := l.take (posV l n l.length) ++ n :: l.drop (posV l n l.length)
theorem posV_le (l : List Near) (n : Near) : ∀ k, posV l n k ≤ k
 | 0 => Nat.le_refl _
 | k + 1 => by
  rw [posV]; split
  ·exact Nat.le_succ_of_le (posV_le l n k)
  ·exact Nat.le_refl _
theorem insV_len (l : List Near) (n : Near) : (insV l n).length = l.length + 1 := by
 have := posV_le l n l.length
 rw [insV, List.length_append, List.length_cons, List.length_take, List.length_drop]; omega
abbrev sameNZ := ((List Near) × (List Near) × Int × Unit) × (Unit)
noncomputable def sameNSl : Tel ((List Near) × (List Near) × Int × Unit) := .cons 0 (.lst En) (.cons 1 (.lst En) (.ji 5 (.nil)))
noncomputable def sameNBl : BTel (Unit) := .nil
noncomputable def sameNFs : List (LForm sameNZ) := [⟨_, _, sameNSl, sameNBl, fun x y => (x, y)⟩]
noncomputable def sameNAlts (R0 : sameNZ → (Unit) → (Unit) → Prop) (R1 : sameNZ → (Bool × Unit) → (Unit) → Prop) : List (Alt sameNZ) := [⟨.exit 0, Unit, Unit, .nil, .nil, R0⟩, ⟨.ret, Bool × Unit, Unit, .cons 4 (.bool) (.nil), .nil, R1⟩]
theorem sameNForm (a b : List Near) (i : Int) (N : sameNZ → Prop) (R0 : sameNZ → (Unit) → (Unit) → Prop) (R1 : sameNZ → (Bool × Unit) → (Unit) → Prop) : ((runW PP (KL [] []) 100).code none 11 26 (uAd PP 11 4) (mkT (sameNSl.av id (a, b, i, ()))) [] (stL false (sameNBl.obs id ())) (uCh 0 sameNFs (sameNAlts R0 R1) ((a, b, i, ()), ()) N)) = ( ifp (!uAf (Int.ofNat a.length) i) (uAp i a.length ∧ ∃ x, Nt En (uAc i) 2 0 a x ∧ ∃ x_1, Nt En (uAc i) 2 1 a x_1 ∧ uAp i b.length ∧ ∃ x_2, Nt En (uAc i) 2 0 b x_2 ∧ ∃ x_3, Nt En (uAc i) 2 1 b x_3 ∧ ifp (uA0 x x_2) (ifp (uA0 x_1 x_3) (T3 <| ∃ l, Wv En a l ∧ ∃ l_1, Wv En b l_1 ∧ true = true ∧ N ((l, l_1, uAa .i64 (i.add 1), ()), ())) (T3 <| true = true ∧ R1 ((a, b, i, ()), ()) (false, ()) ())) (T3 <| true = true ∧ R1 ((a, b, i, ()), ()) (false, ()) ())) (True ∧ true = true ∧ R0 ((a, b, i, ()), ()) () ())) := by kernel_rfl
def sameNInv : sameNZ → Prop := fun ((a, b, i, ()), ()) => ∃ k : Nat, i = k ∧ k ≤ a.length ∧ a.length ≤ 1000000 ∧ a.length = b.length ∧ a.take k = b.take k
def sameNMu : sameNZ → Nat := fun ((a, b, i, ()), ()) => a.length - i.toNat
def sameNR0 : sameNZ → (Unit) → (Unit) → Prop := fun ((a, b, i, ()), ()) _ _ => a = b
def sameNR1 : sameNZ → (Bool × Unit) → (Unit) → Prop := fun ((a, b, i, ()), ()) (r, _) _ => r = false ∧ a ≠ b
noncomputable def sameNC : uB5 := uC9 0 sameNFs (sameNAlts sameNR0 sameNR1) sameNInv
theorem sameNStep : uA3 PP (KL [] []) 100 11 26 (uAd PP 11 4) 0 false sameNFs (sameNAlts sameNR0 sameNR1) sameNInv sameNMu ⟨_, _, sameNSl, sameNBl, fun x y => (x, y)⟩ := by
 intro x y hz
 obtain ⟨a, b, i, _⟩ := x
 obtain _ := y
 refine (sameNForm a b i _ _ _).mpr ?_
 obtain ⟨k, rfl, hk, hl, hab, ht⟩ := hz
 rw [uAe]
 simp only [uAt]
 split
 ·rename_i h
  have hka : k < a.length := by simpa using h
  have hkb : k < b.length := by omega
  have far : a[k] ≠ b[k] → a ≠ b := fun hn e => hn (by subst e; rfl)
  refine ⟨uAk hka, _, uCy hka, _, uD1 hka, uAk hkb, _, uCy hkb, _, uD1 hkb, ?_⟩
  rw [uCz, uCz]
  split
  ·rename_i h1
   split
   ·rename_i h2
    refine ⟨trivial, trivial, trivial, a, Wk.refl _, b, Wk.refl _, by first | trivial | rfl, ?_⟩
    rw [uCb (by omega)]
    refine ⟨⟨k + 1, rfl, hka, hl, hab, ?_⟩, by show a.length - (k + 1) < a.length - k; omega, fun _ _ h => h, fun _ _ h => h, trivial⟩
    have e : a[k] = b[k] := Prod.ext h1 (Prod.ext h2 rfl)
    rw [← List.take_append_getElem hka, ← List.take_append_getElem hkb, ht, e]
   ·rename_i h2
    exact ⟨trivial, trivial, trivial, by first | trivial | rfl, rfl, far fun e => h2 (by rw [e])⟩
  ·rename_i h1
   exact ⟨trivial, trivial, trivial, by first | trivial | rfl, rfl, far fun e => h1 (by rw [e])⟩
 ·rename_i h
  refine ⟨trivial, by first | trivial | rfl, ?_⟩
  show a = b
  rw [take_all (by simpa using h), take_all (by rw [← hab]; simpa using h)] at ht; exact ht
theorem sameNOk : uAs PP 11 26 (.loop (uAd PP 11 4)) (sameNC) := uBf sameNMu  mixed (uC8 (uAq)) rfl (uAo sameNStep (uAx))
noncomputable def sameNT : Tel ((List Near) × (List Near) × Unit) := .cons 0 (.lst En) (.cons 1 (.lst En) (.nil))
theorem sameNFn (a b : List Near) (Q : AV → Prop) : (uA2 PP (runW PP (KL [] [(11, [(4, sameNC)])]) 200) 11 (sameNT.cells id (a, b, ())) (stE false) (fun x st => frzW st x Q)) = ( ifp (!uA0 (Int.ofNat a.length) (Int.ofNat b.length)) (Q (AV.bool false)) (uAs PP 11 26 (uAd PP 11 4).loop sameNC ∧ True ∧ True ∧ ∃ l, Wv En a l ∧ ∃ l_1, Wv En b l_1 ∧ true = true ∧ sameNInv ((l, l_1, 0, ()), ()) ∧ (∀ (c d : Unit), sameNR0 ((l, l_1, 0, ()), ()) c d → Q (AV.bool true)) ∧ (∀ c d, sameNR1 ((l, l_1, 0, ()), ()) c d → Q (AV.bool c.1)) ∧ True)) := by kernel_rfl
def sameNPre : (List Near) × (List Near) × Unit → Prop := fun (a, b, ()) => a.length ≤ 1000000
noncomputable def sameNRes : (List Near) × (List Near) × Unit → AV := fun (a, b, ()) => .bool (decide (a = b))
theorem sameNVal (a : List Near) (b : List Near) (hp : sameNPre (a, b, ())) : Val PP 11 (sameNT.cells id (a, b, ())) (sameNRes (a, b, ())) := by
 refine Val.ofF mixed (uC8 (uAq)) (uDa rfl _) (sameNFn a b) ?_
 have hp' : a.length ≤ 1000000 := hp
 rw [uBu]
 split
 ·rename_i h
  refine ⟨sameNOk, ?_⟩
  repeat first | refine ⟨Nat.le_refl _, ?_⟩ | rw [uAj (uAg (by simp only [Nat.add_eq]; omega) (by decide))] | refine ⟨trivial, ?_⟩ | refine ⟨(rfl : true = true), ?_⟩ | refine ⟨uAk (by omega), ?_⟩ | refine ⟨uA8 (by omega), ?_⟩ | refine ⟨_, uBa (by omega), ?_⟩ | refine ⟨_, _, _, _, _, _, uA4 (by omega), ?_⟩ | refine ⟨_, _, _, _, _, _, nth_lst0 (by omega), ?_⟩ | refine ⟨_, Wk.refl _, ?_⟩ | rw [uAj rfl]
  refine ⟨⟨0, rfl, by omega, hp', by simp at h; omega, rfl⟩, fun _ _ hr => ?_, fun c _ hr => ?_, trivial⟩
  ·exact uBk (by rw [decide_eq_true (show a = b from hr)])
  ·obtain ⟨r, _⟩ := c
   obtain ⟨rfl, hr⟩ := hr
   exact uBk (by rw [decide_eq_false hr])
 ·rename_i h
  exact uBk (by rw [decide_eq_false]; intro e; subst e; exact h rfl)
def Srt (L : List Near) : Prop := L.Pairwise fun a b => uBs b a = false
theorem ins_perm (L : List Near) (n : Near) : (insV L n).Perm (n :: L) := by
 rw [insV]
 refine List.perm_middle.trans ?_
 rw [List.take_append_drop]
theorem posV_spec (L : List Near) (n : Near) : ∀ k, k ≤ L.length → (∀ i (hi : i < L.length), posV L n k ≤ i → i < k → uBs n L[i] = true) ∧ (posV L n k = 0 ∨ ∃ h : posV L n k - 1 < L.length, uBs n (L[posV L n k - 1]'h) = false)
 | 0, _ => ⟨fun i _ _ h => by omega, Or.inl rfl⟩
 | k + 1, hk => by
  have hg : L.getD k n = L[k] := by simp [show k < L.length by omega]
  have ih := posV_spec L n k (by omega)
  rw [posV]
  by_cases h : uBs n (L.getD k n) = true
  ·rw [if_pos h]
   refine ⟨fun i hi h1 h2 => ?_, ih.2⟩
   by_cases e : i = k
   ·subst e; rw [hg] at h; exact h
   ·exact ih.1 i hi h1 (by omega)
  ·rw [if_neg h]
   refine ⟨fun i hi h1 h2 => by omega, Or.inr ⟨by show k + 1 - 1 < L.length; omega, ?_⟩⟩
   rw [hg] at h
   simpa using h
theorem Srt.get {L : List Near} (h : Srt L) {i j : Nat} (hi : i < L.length) (hj : j < L.length) (hij : i ≤ j) : uBs L[j] L[i] = false := by
 rcases Nat.lt_or_ge i j with c | c
 ·exact List.pairwise_iff_getElem.1 h i j hi hj c
 ·obtain rfl : i = j := by omega
  exact uDm.irr _
theorem ins_sorted {L : List Near} (h : Srt L) (n : Near) : Srt (insV L n) := by
 have hs := posV_spec L n L.length (Nat.le_refl _)
 have hp := posV_le L n L.length
 rw [insV]
 generalize posV L n L.length = p at *
 refine List.pairwise_append.2 ⟨h.sublist (List.take_sublist _ _), List.pairwise_cons.2 ⟨fun x hx => ?_, h.sublist (List.drop_sublist _ _)⟩, fun x hx y hy => ?_⟩
 ·obtain ⟨j, hj, rfl⟩ := List.getElem_of_mem hx
  rw [List.length_drop] at hj
  rw [List.getElem_drop]
  exact uDm.asym (hs.1 (p + j) (by omega) (by omega) (by omega))
 ·obtain ⟨i, hi, rfl⟩ := List.getElem_of_mem hx
  rw [List.length_take] at hi
  rw [List.getElem_take]
  rcases List.mem_cons.1 hy with rfl | hy
  ·rcases hs.2 with h0 | ⟨h1, h2⟩
   ·omega
   ·exact uDm.le_tr (h.get (by omega) h1 (by omega)) h2
  ·obtain ⟨j, hj, rfl⟩ := List.getElem_of_mem hy
   rw [List.length_drop] at hj
   rw [List.getElem_drop]
   exact h.get (by omega) (by omega) (by omega)
theorem srt_unique {a b : List Near} (ha : Srt a) (hb : Srt b) (h : a.Perm b) : a = b :=
 List.Perm.eq_of_pairwise (le := fun x y => uBs y x = false) (fun x y _ _ h1 h2 => uDm.tot x y h2 h1) ha hb h
theorem uDl (l : List Near) : Srt (uBq l) := by
 have tr : ∀ a b c : Near, (!uBs b a) = true → (!uBs c b) = true → (!uBs c a) = true := fun a b c h1 h2 => by
  simp only [Bool.not_eq_true'] at *
  exact uDm.le_tr h1 h2
 have to : ∀ a b : Near, ((!uBs b a) || (!uBs a b)) = true := fun a b => by
  cases h : uBs b a with
  | false => rfl
  | true => rw [uDm.asym h]; rfl
 exact (List.pairwise_mergeSort tr to l).imp fun h => by simpa using h
theorem uB8 (l : List Near) : (uBq l).Perm l := List.mergeSort_perm l _
end Go.Proofs.YteehkdejkemnmacDoor
namespace Go.Proofs.YteehkdejkemnmacDoor
open Go.Det Go.RowKit
set_option maxRecDepth 100000
abbrev qHeapXt0 := (Nat × Nat) × Int × Unit
abbrev upZ := qHeapXt0 × ((List Near) × Unit)
noncomputable def upSl : Tel qHeapXt0 := .cons 0 (.slq 0 2) (.ji 2 (.nil))
noncomputable def upBl : BTel ((List Near) × Unit) := .cons (.rows En 46) (.nil)
noncomputable def upFs : List (LForm upZ) := [⟨_, _, upSl, upBl, fun x y => (x, y)⟩]
abbrev uC6 := (List Near) × Unit
noncomputable def upAlts (R0 : upZ → (Unit) → uC6 → Prop) (R1 : upZ → (Unit) → uC6 → Prop) : List (Alt upZ) := [⟨.exit 0, Unit, uC6, .nil, .cons (.rows En 46) (.nil), R0⟩, ⟨.ret, Unit, uC6, .nil, .cons (.rows En 46) (.nil), R1⟩]
noncomputable abbrev qHeapXk1 := KLS [(37, lessK)] [] 46
theorem upForm (h : Nat × Nat) (i : Int) (m : List Near) (N : upZ → Prop) (R0 R1 : upZ → (Unit) → uC6 → Prop) : ((runW PP qHeapXk1 100).code none 36 37 (uAd PP 36 1) (mkT (upSl.av id (h, i, ()))) [] (stL false (upBl.obs id (m, ()))) (uCh 1 upFs (upAlts R0 R1) ((h, i, ()), m, ()) N)) = ( ifp (!uAf i 0) ((2 : Int) ≠ 0 ∧ uAp (uAa .i64 ((uAa .i64 (i.sub 1)).tdiv 2)) h.1 ∧ ∃ x : Int, nth ((Nat.add 0 ((uAc (uAa .i64 ((uAa .i64 (i.sub 1)).tdiv 2))).mul 2)).add 0) (m.flatMap En.f) = some (I64 x) ∧ ∃ x_1 : Int, nth ((Nat.add 0 ((uAc (uAa .i64 ((uAa .i64 (i.sub 1)).tdiv 2))).mul 2)).add 1) (m.flatMap En.f) = some (I64 x_1) ∧ uAp i h.1 ∧ ∃ x_2 : Int, nth ((Nat.add 0 ((uAc i).mul 2)).add 0) (m.flatMap En.f) = some (I64 x_2) ∧ ∃ x_3 : Int, nth ((Nat.add 0 ((uAc i).mul 2)).add 1) (m.flatMap En.f) = some (I64 x_3) ∧ ∃ a : Near, Ag2 x x_1 a ∧ ∃ a_1 : Near, Ag2 x_2 x_3 a_1 ∧ lessPre (a, a_1, ()) ∧ ifp (uBs a a_1) (True ∧ True ∧ uAp i h.1 ∧ ∃ x : Int, nth ((Nat.add 0 ((uAc i).mul 2)).add 0) (m.flatMap En.f) = some (I64 x) ∧ ∃ x_4 : Int, nth ((Nat.add 0 ((uAc i).mul 2)).add 1) (m.flatMap En.f) = some (I64 x_4) ∧ uAp (uAa .i64 ((uAa .i64 (i.sub 1)).tdiv 2)) h.1 ∧ ∃ x_5 : Int, nth ((Nat.add 0 ((uAc (uAa .i64 ((uAa .i64 (i.sub 1)).tdiv 2))).mul 2)).add 0) (m.flatMap En.f) = some (I64 x_5) ∧ ∃ x_6 : Int, nth ((Nat.add 0 ((uAc (uAa .i64 ((uAa .i64 (i.sub 1)).tdiv 2))).mul 2)).add 1) (m.flatMap En.f) = some (I64 x_6) ∧ uAp (uAa .i64 ((uAa .i64 (i.sub 1)).tdiv 2)) h.1 ∧ (Nat.add 0 ((uAc (uAa .i64 ((uAa .i64 (i.sub 1)).tdiv 2))).mul 2)).add 2 ≤ (m.flatMap En.f).length ∧ uAp i h.1 ∧ (Nat.add 0 ((uAc i).mul 2)).add 2 ≤ (setAt (Nat.add 0 ((uAc (uAa .i64 ((uAa .i64 (i.sub 1)).tdiv 2))).mul 2)) [I64 x, I64 x_4] (m.flatMap En.f)).length ∧ True ∧ True ∧ True ∧ ∃ (l : List Near), setAt (Nat.add 0 ((uAc i).mul 2)) [I64 x_5, I64 x_6] (setAt (Nat.add 0 ((uAc (uAa .i64 ((uAa .i64 (i.sub 1)).tdiv 2))).mul 2)) [I64 x, I64 x_4] (m.flatMap En.f)) = l.flatMap En.f ∧ true = true ∧ N ((h, uAa .i64 ((uAa .i64 (i.sub 1)).tdiv 2), ()), l, ())) (T3 <| ∃ l, Sa En m l ∧ true = true ∧ R1 ((h, i, ()), m, ()) () (l, ()))) (True ∧ ∃ l, Sa En m l ∧ true = true ∧ R0 ((h, i, ()), m, ()) () (l, ()))) := by kernel_rfl
def upInv : upZ → Prop := fun ((h, i, ()), m, ()) => ∃ k : Nat, i = k ∧ h.1 = m.length ∧ k < m.length ∧ m.length ≤ 1000000 ∧ Hp.HeapUp uBs m k
def upMu : upZ → Nat := fun ((h, i, ()), m, ()) => i.toNat
def upR0 : upZ → (Unit) → uC6 → Prop := fun ((h, i, ()), m, ()) _ (m2, _) => m2.Perm m ∧ Hp.Heap uBs m2
def upR1 : upZ → (Unit) → uC6 → Prop := fun ((h, i, ()), m, ()) _ (m2, _) => m2.Perm m ∧ Hp.Heap uBs m2
noncomputable def upC : uB5 := uC9 1 upFs (upAlts upR0 upR1) upInv
theorem upStep : uA3 PP qHeapXk1 100 36 37 (uAd PP 36 1) 1 false upFs (upAlts upR0 upR1) upInv upMu ⟨_, _, upSl, upBl, fun x y => (x, y)⟩ := by
 intro x y hz
 obtain ⟨h, i, _⟩ := x
 obtain ⟨m, _⟩ := y
 refine (upForm h i m _ _ _).mpr ?_
 obtain ⟨k, rfl, hh, hk, hl, hu⟩ := hz
 rw [uAe]
 split
 ·rename_i h0
  have hk0 : 0 < k := by omega
  have hp : (k - 1) / 2 < m.length := by omega
  simp only [half hk0 (by omega), uAt]
  refine ⟨by decide, by rw [hh]; exact uAk hp, _, uBm hp, _, uBl hp, by rw [hh]; exact uAk hk, _, uBm hk, _, uBl hk, m[(k - 1) / 2], rfl, m[k], rfl, trivial, ?_⟩
  rw [ifp_if]
  split
  ·rename_i hlt
   refine ⟨trivial, trivial, by rw [hh]; exact uAk hk, _, uBm hk, _, uBl hk, by rw [hh]; exact uAk hp, _, uBm hp, _, uBl hp, by rw [hh]; exact uAk hp, near_fit hp rfl, by rw [hh]; exact uAk hk, ?_, trivial, trivial, trivial, Hp.swap m ((k - 1) / 2) k hp hk, ?_, by first | trivial | rfl, ?_⟩
   ·rw [uDt hp]; exact near_fit hk (by simp)
   ·rw [uDt hp, uDt (by simpa using hk)]; rfl
   ·exact ⟨⟨(k - 1) / 2, rfl, by rw [Hp.uBd]; exact hh, by rw [Hp.uBd]; exact hp, by rw [Hp.uBd]; exact hl, hu.step uDm hk hk0 hlt⟩, by show (k - 1) / 2 < k; omega, fun _ _ h => ⟨h.1.trans (Hp.swap_perm _ _ _ _ _), h.2⟩, fun _ _ h => ⟨h.1.trans (Hp.swap_perm _ _ _ _ _), h.2⟩, trivial⟩
  ·rename_i hlt
   exact ⟨trivial, trivial, trivial, m, by first | trivial | rfl, by first | trivial | rfl, List.Perm.refl _, hu.done hk (Or.inr (by simpa using hlt))⟩
 ·exact ⟨trivial, m, by first | trivial | rfl, by first | trivial | rfl, List.Perm.refl _, hu.done hk (Or.inl (by omega))⟩
theorem upOk : uAs PP 36 37 (.loop (uAd PP 36 1)) (upC) := uBf upMu  mixed (uCn (uAi lessCc (uAq))) rfl (uAo upStep (uAx))
abbrev downZ := qHeapXt0 × uC6
noncomputable def downSl : Tel qHeapXt0 := .cons 0 (.slq 0 2) (.ji 2 (.nil))
noncomputable def downBl : BTel uC6 := .cons (.rows En 46) (.nil)
noncomputable def downFs : List (LForm downZ) := [⟨_, _, downSl, downBl, fun x y => (x, y)⟩]
noncomputable def downAlts (R0 : downZ → (Unit) → uC6 → Prop) : List (Alt downZ) := [⟨.ret, Unit, uC6, .nil, .cons (.rows En 46) (.nil), R0⟩]
theorem downForm (h : Nat × Nat) (i : Int) (m : List Near) (N : downZ → Prop) (R0 : downZ → (Unit) → uC6 → Prop) : ((runW PP qHeapXk1 100).code none 38 57 (uAd PP 38 1) (mkT (downSl.av id (h, i, ()))) [] (stL false (downBl.obs id (m, ()))) (uCh 1 downFs (downAlts R0) ((h, i, ()), m, ()) N)) = ( ifp (!uAf (Int.ofNat h.1) (uAa .i64 ((uAa .i64 ((uAa .i64 (Int.mul 2 i)).add 1)).add 1))) (uAp (uAa .i64 ((uAa .i64 (Int.mul 2 i)).add 1)) h.1 ∧ ∃ x : Int, nth ((Nat.add 0 ((uAc (uAa .i64 ((uAa .i64 (Int.mul 2 i)).add 1))).mul 2)).add 0) (m.flatMap En.f) = some (I64 x) ∧ ∃ x_1 : Int, nth ((Nat.add 0 ((uAc (uAa .i64 ((uAa .i64 (Int.mul 2 i)).add 1))).mul 2)).add 1) (m.flatMap En.f) = some (I64 x_1) ∧ uAp (uAa .i64 ((uAa .i64 ((uAa .i64 (Int.mul 2 i)).add 1)).add 1)) h.1 ∧ ∃ x_2 : Int, nth ((Nat.add 0 ((uAc (uAa .i64 ((uAa .i64 ((uAa .i64 (Int.mul 2 i)).add 1)).add 1))).mul 2)).add 0) (m.flatMap En.f) = some (I64 x_2) ∧ ∃ x_3 : Int, nth ((Nat.add 0 ((uAc (uAa .i64 ((uAa .i64 ((uAa .i64 (Int.mul 2 i)).add 1)).add 1))).mul 2)).add 1) (m.flatMap En.f) = some (I64 x_3) ∧ ∃ a : Near, Ag2 x x_1 a ∧ ∃ a_1 : Near, Ag2 x_2 x_3 a_1 ∧ lessPre (a, a_1, ()) ∧ ifp (uBs a a_1) (T3 <| ifp (uAf (Int.ofNat h.1) (uAa .i64 ((uAa .i64 ((uAa .i64 (Int.mul 2 i)).add 1)).add 1))) (True ∧ True ∧ ∃ l, Sa En m l ∧ true = true ∧ R0 ((h, i, ()), m, ()) () (l, ())) (uAp i h.1 ∧ ∃ x : Int, nth ((Nat.add 0 ((uAc i).mul 2)).add 0) (m.flatMap En.f) = some (I64 x) ∧ ∃ x_4 : Int, nth ((Nat.add 0 ((uAc i).mul 2)).add 1) (m.flatMap En.f) = some (I64 x_4) ∧ uAp (uAa .i64 ((uAa .i64 ((uAa .i64 (Int.mul 2 i)).add 1)).add 1)) h.1 ∧ ∃ x_5 : Int, nth ((Nat.add 0 ((uAc (uAa .i64 ((uAa .i64 ((uAa .i64 (Int.mul 2 i)).add 1)).add 1))).mul 2)).add 0) (m.flatMap En.f) = some (I64 x_5) ∧ ∃ x_6 : Int, nth ((Nat.add 0 ((uAc (uAa .i64 ((uAa .i64 ((uAa .i64 (Int.mul 2 i)).add 1)).add 1))).mul 2)).add 1) (m.flatMap En.f) = some (I64 x_6) ∧ ∃ a : Near, Ag2 x x_4 a ∧ ∃ a_2 : Near, Ag2 x_5 x_6 a_2 ∧ lessPre (a, a_2, ()) ∧ ifp (uBs a a_2) (T3 <| uAp (uAa .i64 ((uAa .i64 ((uAa .i64 (Int.mul 2 i)).add 1)).add 1)) h.1 ∧ ∃ x : Int, nth ((Nat.add 0 ((uAc (uAa .i64 ((uAa .i64 ((uAa .i64 (Int.mul 2 i)).add 1)).add 1))).mul 2)).add 0) (m.flatMap En.f) = some (I64 x) ∧ ∃ x_7 : Int, nth ((Nat.add 0 ((uAc (uAa .i64 ((uAa .i64 ((uAa .i64 (Int.mul 2 i)).add 1)).add 1))).mul 2)).add 1) (m.flatMap En.f) = some (I64 x_7) ∧ uAp i h.1 ∧ ∃ x_8 : Int, nth ((Nat.add 0 ((uAc i).mul 2)).add 0) (m.flatMap En.f) = some (I64 x_8) ∧ ∃ x_9 : Int, nth ((Nat.add 0 ((uAc i).mul 2)).add 1) (m.flatMap En.f) = some (I64 x_9) ∧ uAp i h.1 ∧ (Nat.add 0 ((uAc i).mul 2)).add 2 ≤ (m.flatMap En.f).length ∧ uAp (uAa .i64 ((uAa .i64 ((uAa .i64 (Int.mul 2 i)).add 1)).add 1)) h.1 ∧ (Nat.add 0 ((uAc (uAa .i64 ((uAa .i64 ((uAa .i64 (Int.mul 2 i)).add 1)).add 1))).mul 2)).add 2 ≤ (setAt (Nat.add 0 ((uAc i).mul 2)) [I64 x, I64 x_7] (m.flatMap En.f)).length ∧ True ∧ True ∧ True ∧ ∃ (l : List Near), setAt (Nat.add 0 ((uAc (uAa .i64 ((uAa .i64 ((uAa .i64 (Int.mul 2 i)).add 1)).add 1))).mul 2)) [I64 x_8, I64 x_9] (setAt (Nat.add 0 ((uAc i).mul 2)) [I64 x, I64 x_7] (m.flatMap En.f)) = l.flatMap En.f ∧ true = true ∧ N ((h, uAa .i64 ((uAa .i64 ((uAa .i64 (Int.mul 2 i)).add 1)).add 1), ()), l, ())) (T4 <| ∃ l, Sa En m l ∧ true = true ∧ R0 ((h, i, ()), m, ()) () (l, ())))) (T3 <| ifp (uAf (Int.ofNat h.1) (uAa .i64 ((uAa .i64 (Int.mul 2 i)).add 1))) (True ∧ True ∧ ∃ l, Sa En m l ∧ true = true ∧ R0 ((h, i, ()), m, ()) () (l, ())) (uAp i h.1 ∧ ∃ x : Int, nth ((Nat.add 0 ((uAc i).mul 2)).add 0) (m.flatMap En.f) = some (I64 x) ∧ ∃ x_4 : Int, nth ((Nat.add 0 ((uAc i).mul 2)).add 1) (m.flatMap En.f) = some (I64 x_4) ∧ uAp (uAa .i64 ((uAa .i64 (Int.mul 2 i)).add 1)) h.1 ∧ ∃ x_5 : Int, nth ((Nat.add 0 ((uAc (uAa .i64 ((uAa .i64 (Int.mul 2 i)).add 1))).mul 2)).add 0) (m.flatMap En.f) = some (I64 x_5) ∧ ∃ x_6 : Int, nth ((Nat.add 0 ((uAc (uAa .i64 ((uAa .i64 (Int.mul 2 i)).add 1))).mul 2)).add 1) (m.flatMap En.f) = some (I64 x_6) ∧ ∃ a : Near, Ag2 x x_4 a ∧ ∃ a_2 : Near, Ag2 x_5 x_6 a_2 ∧ lessPre (a, a_2, ()) ∧ ifp (uBs a a_2) (T3 <| uAp (uAa .i64 ((uAa .i64 (Int.mul 2 i)).add 1)) h.1 ∧ ∃ x : Int, nth ((Nat.add 0 ((uAc (uAa .i64 ((uAa .i64 (Int.mul 2 i)).add 1))).mul 2)).add 0) (m.flatMap En.f) = some (I64 x) ∧ ∃ x_7 : Int, nth ((Nat.add 0 ((uAc (uAa .i64 ((uAa .i64 (Int.mul 2 i)).add 1))).mul 2)).add 1) (m.flatMap En.f) = some (I64 x_7) ∧ uAp i h.1 ∧ ∃ x_8 : Int, nth ((Nat.add 0 ((uAc i).mul 2)).add 0) (m.flatMap En.f) = some (I64 x_8) ∧ ∃ x_9 : Int, nth ((Nat.add 0 ((uAc i).mul 2)).add 1) (m.flatMap En.f) = some (I64 x_9) ∧ uAp i h.1 ∧ (Nat.add 0 ((uAc i).mul 2)).add 2 ≤ (m.flatMap En.f).length ∧ uAp (uAa .i64 ((uAa .i64 (Int.mul 2 i)).add 1)) h.1 ∧ (Nat.add 0 ((uAc (uAa .i64 ((uAa .i64 (Int.mul 2 i)).add 1))).mul 2)).add 2 ≤ (setAt (Nat.add 0 ((uAc i).mul 2)) [I64 x, I64 x_7] (m.flatMap En.f)).length ∧ True ∧ True ∧ True ∧ ∃ (l : List Near), setAt (Nat.add 0 ((uAc (uAa .i64 ((uAa .i64 (Int.mul 2 i)).add 1))).mul 2)) [I64 x_8, I64 x_9] (setAt (Nat.add 0 ((uAc i).mul 2)) [I64 x, I64 x_7] (m.flatMap En.f)) = l.flatMap En.f ∧ true = true ∧ N ((h, uAa .i64 ((uAa .i64 (Int.mul 2 i)).add 1), ()), l, ())) (T4 <| ∃ l, Sa En m l ∧ true = true ∧ R0 ((h, i, ()), m, ()) () (l, ()))))) (True ∧ ifp (uAf (Int.ofNat h.1) (uAa .i64 ((uAa .i64 (Int.mul 2 i)).add 1))) (True ∧ True ∧ ∃ l, Sa En m l ∧ true = true ∧ R0 ((h, i, ()), m, ()) () (l, ())) (uAp i h.1 ∧ ∃ x : Int, nth ((Nat.add 0 ((uAc i).mul 2)).add 0) (m.flatMap En.f) = some (I64 x) ∧ ∃ x_1 : Int, nth ((Nat.add 0 ((uAc i).mul 2)).add 1) (m.flatMap En.f) = some (I64 x_1) ∧ uAp (uAa .i64 ((uAa .i64 (Int.mul 2 i)).add 1)) h.1 ∧ ∃ x_2 : Int, nth ((Nat.add 0 ((uAc (uAa .i64 ((uAa .i64 (Int.mul 2 i)).add 1))).mul 2)).add 0) (m.flatMap En.f) = some (I64 x_2) ∧ ∃ x_3 : Int, nth ((Nat.add 0 ((uAc (uAa .i64 ((uAa .i64 (Int.mul 2 i)).add 1))).mul 2)).add 1) (m.flatMap En.f) = some (I64 x_3) ∧ ∃ a : Near, Ag2 x x_1 a ∧ ∃ a_1 : Near, Ag2 x_2 x_3 a_1 ∧ lessPre (a, a_1, ()) ∧ ifp (uBs a a_1) (T3 <| uAp (uAa .i64 ((uAa .i64 (Int.mul 2 i)).add 1)) h.1 ∧ ∃ x : Int, nth ((Nat.add 0 ((uAc (uAa .i64 ((uAa .i64 (Int.mul 2 i)).add 1))).mul 2)).add 0) (m.flatMap En.f) = some (I64 x) ∧ ∃ x_4 : Int, nth ((Nat.add 0 ((uAc (uAa .i64 ((uAa .i64 (Int.mul 2 i)).add 1))).mul 2)).add 1) (m.flatMap En.f) = some (I64 x_4) ∧ uAp i h.1 ∧ ∃ x_5 : Int, nth ((Nat.add 0 ((uAc i).mul 2)).add 0) (m.flatMap En.f) = some (I64 x_5) ∧ ∃ x_6 : Int, nth ((Nat.add 0 ((uAc i).mul 2)).add 1) (m.flatMap En.f) = some (I64 x_6) ∧ uAp i h.1 ∧ (Nat.add 0 ((uAc i).mul 2)).add 2 ≤ (m.flatMap En.f).length ∧ uAp (uAa .i64 ((uAa .i64 (Int.mul 2 i)).add 1)) h.1 ∧ (Nat.add 0 ((uAc (uAa .i64 ((uAa .i64 (Int.mul 2 i)).add 1))).mul 2)).add 2 ≤ (setAt (Nat.add 0 ((uAc i).mul 2)) [I64 x, I64 x_4] (m.flatMap En.f)).length ∧ True ∧ True ∧ True ∧ ∃ (l : List Near), setAt (Nat.add 0 ((uAc (uAa .i64 ((uAa .i64 (Int.mul 2 i)).add 1))).mul 2)) [I64 x_5, I64 x_6] (setAt (Nat.add 0 ((uAc i).mul 2)) [I64 x, I64 x_4] (m.flatMap En.f)) = l.flatMap En.f ∧ true = true ∧ N ((h, uAa .i64 ((uAa .i64 (Int.mul 2 i)).add 1), ()), l, ())) (T4 <| ∃ l, Sa En m l ∧ true = true ∧ R0 ((h, i, ()), m, ()) () (l, ()))))) := by kernel_rfl
def downInv : downZ → Prop := fun ((h, i, ()), m, ()) => ∃ k : Nat, i = k ∧ h.1 = m.length ∧ k < m.length ∧ m.length ≤ 1000000 ∧ Hp.HeapDown uBs m k
def downMu : downZ → Nat := fun ((h, i, ()), m, ()) => m.length - i.toNat
def downR0 : downZ → (Unit) → uC6 → Prop := fun ((h, i, ()), m, ()) _ (m2, _) => m2.Perm m ∧ Hp.Heap uBs m2
noncomputable def downC : uB5 := uC9 1 downFs (downAlts downR0) downInv
theorem downStep : uA3 PP qHeapXk1 100 38 57 (uAd PP 38 1) 1 false downFs (downAlts downR0) downInv downMu ⟨_, _, downSl, downBl, fun x y => (x, y)⟩ := by
 intro x y hz
 obtain ⟨h, i, _⟩ := x
 obtain ⟨m, _⟩ := y
 refine (downForm h i m _ _).mpr ?_
 obtain ⟨k, rfl, hh, hk, hl, hu⟩ := hz
 have eC : uAa .i64 (Int.add (uAa .i64 (Int.mul 2 (k : Int))) 1) = ((2 * k + 1 : Nat) : Int) := by
  have e1 : uAa .i64 (Int.mul 2 (k : Int)) = ((2 * k : Nat) : Int) := by
   rw [show Int.mul 2 (k : Int) = ((2 * k : Nat) : Int) from rfl, w64 (by omega) (by omega)]
  rw [e1, uCb (by omega)]
 have eD : uAa .i64 (Int.add ((2 * k + 1 : Nat) : Int) 1) = ((2 * k + 1 + 1 : Nat) : Int) := uCb (by omega)
 simp only [eC, eD, uAt]
 rw [uAe]
 split
 ·rename_i hD'
  have hD : 2 * k + 1 + 1 < m.length := by simp only [Int.ofNat_eq_natCast] at hD'; omega
  have hC : 2 * k + 1 < m.length := by omega
  refine ⟨by rw [hh]; exact uAk hC, _, uBm hC, _, uBl hC, by rw [hh]; exact uAk hD, _, uBm hD, _, uBl hD, m[2 * k + 1], rfl, m[2 * k + 1 + 1], rfl, trivial, ?_⟩
  rw [ifp_if]
  split
  ·rename_i hcd
   have hg : ∀ j (hj : j < m.length), 0 < j → (j - 1) / 2 = k → uBs m[2 * k + 1 + 1] m[j] = false := fun j hj h0 he => by
    rcases (show j = 2 * k + 1 ∨ j = 2 * k + 1 + 1 by omega) with rfl | rfl
    ·exact uDm.asym hcd
    ·exact uDm.irr _
   refine ⟨trivial, trivial, trivial, ?_⟩
   rw [uEg, if_neg (by simp only [Int.ofNat_eq_natCast]; omega)]
   refine ⟨by rw [hh]; exact uAk hk, _, uBm hk, _, uBl hk, by rw [hh]; exact uAk hD, _, uBm hD, _, uBl hD, m[k], rfl, m[2 * k + 1 + 1], rfl, trivial, ?_⟩
   rw [ifp_if]
   split
   ·rename_i hlt
    refine ⟨trivial, trivial, trivial, by rw [hh]; exact uAk hD, _, uBm hD, _, uBl hD, by rw [hh]; exact uAk hk, _, uBm hk, _, uBl hk, by rw [hh]; exact uAk hk, near_fit hk rfl, by rw [hh]; exact uAk hD, ?_, trivial, trivial, trivial, Hp.swap m k (2 * k + 1 + 1) hk hD, ?_, by first | trivial | rfl, ?_⟩
    ·rw [uDt hk]; exact near_fit hD (by simp)
    ·rw [uDt hk, uDt (by simpa using hD)]; rfl
    ·exact ⟨⟨2 * k + 1 + 1, rfl, by rw [Hp.uBd]; exact hh, by rw [Hp.uBd]; exact hD, by rw [Hp.uBd]; exact hl, hu.step uDm hD (by omega) (by omega) hk hg hlt⟩, by show (Hp.swap m k (2 * k + 1 + 1) hk hD).length - (2 * k + 1 + 1) < m.length - k; rw [Hp.uBd]; omega, fun _ _ h => ⟨h.1.trans (Hp.swap_perm _ _ _ _ _), h.2⟩, trivial⟩
   ·rename_i hlt
    exact ⟨trivial, trivial, trivial, trivial, m, by first | trivial | rfl, by first | trivial | rfl, List.Perm.refl _, hu.done fun j hj h0 he => by
     have h1 := hg j hj h0 he
     have h2 : uBs m[k] m[2 * k + 1 + 1] = false := by simpa using hlt
     have h3 := uDm.le_tr h1 h2
     simpa [he] using h3⟩
  ·rename_i hcd
   have hg : ∀ j (hj : j < m.length), 0 < j → (j - 1) / 2 = k → uBs m[2 * k + 1] m[j] = false := fun j hj h0 he => by
    rcases (show j = 2 * k + 1 ∨ j = 2 * k + 1 + 1 by omega) with rfl | rfl
    ·exact uDm.irr _
    ·simpa using hcd
   refine ⟨trivial, trivial, trivial, ?_⟩
   rw [uEg, if_neg (by simp only [Int.ofNat_eq_natCast]; omega)]
   refine ⟨by rw [hh]; exact uAk hk, _, uBm hk, _, uBl hk, by rw [hh]; exact uAk hC, _, uBm hC, _, uBl hC, m[k], rfl, m[2 * k + 1], rfl, trivial, ?_⟩
   rw [ifp_if]
   split
   ·rename_i hlt
    refine ⟨trivial, trivial, trivial, by rw [hh]; exact uAk hC, _, uBm hC, _, uBl hC, by rw [hh]; exact uAk hk, _, uBm hk, _, uBl hk, by rw [hh]; exact uAk hk, near_fit hk rfl, by rw [hh]; exact uAk hC, ?_, trivial, trivial, trivial, Hp.swap m k (2 * k + 1) hk hC, ?_, by first | trivial | rfl, ?_⟩
    ·rw [uDt hk]; exact near_fit hC (by simp)
    ·rw [uDt hk, uDt (by simpa using hC)]; rfl
    ·exact ⟨⟨2 * k + 1, rfl, by rw [Hp.uBd]; exact hh, by rw [Hp.uBd]; exact hC, by rw [Hp.uBd]; exact hl, hu.step uDm hC (by omega) (by omega) hk hg hlt⟩, by show (Hp.swap m k (2 * k + 1) hk hC).length - (2 * k + 1) < m.length - k; rw [Hp.uBd]; omega, fun _ _ h => ⟨h.1.trans (Hp.swap_perm _ _ _ _ _), h.2⟩, trivial⟩
   ·rename_i hlt
    exact ⟨trivial, trivial, trivial, trivial, m, by first | trivial | rfl, by first | trivial | rfl, List.Perm.refl _, hu.done fun j hj h0 he => by
     have h1 := hg j hj h0 he
     have h2 : uBs m[k] m[2 * k + 1] = false := by simpa using hlt
     have h3 := uDm.le_tr h1 h2
     simpa [he] using h3⟩
 ·rename_i hD'
  refine ⟨trivial, ?_⟩
  by_cases hC : 2 * k + 1 < m.length
  ·have hg : ∀ j (hj : j < m.length), 0 < j → (j - 1) / 2 = k → uBs m[2 * k + 1] m[j] = false := fun j hj h0 he => by
    simp only [Int.ofNat_eq_natCast] at hD'
    obtain rfl : j = 2 * k + 1 := by omega
    exact uDm.irr _
   rw [uEg, if_neg (by simp only [Int.ofNat_eq_natCast]; omega)]
   refine ⟨by rw [hh]; exact uAk hk, _, uBm hk, _, uBl hk, by rw [hh]; exact uAk hC, _, uBm hC, _, uBl hC, m[k], rfl, m[2 * k + 1], rfl, trivial, ?_⟩
   rw [ifp_if]
   split
   ·rename_i hlt
    refine ⟨trivial, trivial, trivial, by rw [hh]; exact uAk hC, _, uBm hC, _, uBl hC, by rw [hh]; exact uAk hk, _, uBm hk, _, uBl hk, by rw [hh]; exact uAk hk, near_fit hk rfl, by rw [hh]; exact uAk hC, ?_, trivial, trivial, trivial, Hp.swap m k (2 * k + 1) hk hC, ?_, by first | trivial | rfl, ?_⟩
    ·rw [uDt hk]; exact near_fit hC (by simp)
    ·rw [uDt hk, uDt (by simpa using hC)]; rfl
    ·exact ⟨⟨2 * k + 1, rfl, by rw [Hp.uBd]; exact hh, by rw [Hp.uBd]; exact hC, by rw [Hp.uBd]; exact hl, hu.step uDm hC (by omega) (by omega) hk hg hlt⟩, by show (Hp.swap m k (2 * k + 1) hk hC).length - (2 * k + 1) < m.length - k; rw [Hp.uBd]; omega, fun _ _ h => ⟨h.1.trans (Hp.swap_perm _ _ _ _ _), h.2⟩, trivial⟩
   ·rename_i hlt
    exact ⟨trivial, trivial, trivial, trivial, m, by first | trivial | rfl, by first | trivial | rfl, List.Perm.refl _, hu.done fun j hj h0 he => by
     have h1 := hg j hj h0 he
     have h2 : uBs m[k] m[2 * k + 1] = false := by simpa using hlt
     have h3 := uDm.le_tr h1 h2
     simpa [he] using h3⟩
  ·rw [uEg, if_pos (by simp only [Int.ofNat_eq_natCast]; omega)]
   exact ⟨trivial, trivial, m, by first | trivial | rfl, by first | trivial | rfl, List.Perm.refl _, hu.done fun j hj h0 he => by omega⟩
theorem downOk : uAs PP 38 57 (.loop (uAd PP 38 1)) (downC) := uBf downMu  mixed (uCn (uAi lessCc (uAq))) rfl (uAo downStep (uAx))
def addOk (k : Int) (m : List Near) (n : Near) (b : Bool) (m2 : List Near) : Prop :=
 if (m.length : Int) < k then b = true ∧ m2.Perm (m ++ [n]) ∧ Hp.Heap uBs m2
 else if k = 0 ∨ uBs n (m.headD n) = false then b = false ∧ m2 = m
 else b = true ∧ m2.Perm (m.set 0 n) ∧ Hp.Heap uBs m2
theorem hd_get {m : List Near} {n : Near} (h : 0 < m.length) : m.headD n = m[0] := by cases m with | nil => simp at h | cons a m => rfl
abbrev add1Z := (Unit × Near × Unit) × ((Int × (Nat × Nat) × Unit) × (List Near) × Unit)
noncomputable def add1T : Tel (Unit × Near × Unit) := .cons 0 (.ptr 0) (.cons 1 (.agg En) (.nil))
noncomputable abbrev qHeapXr0 := Bk.row (.ji 0 (.cons 1 (.slq 1 2) (.nil)))
noncomputable def add1Bl : BTel ((Int × (Nat × Nat) × Unit) × (List Near) × Unit) := .cons qHeapXr0 (.cons (.rows En 46) (.nil))
abbrev qHeapX1 := Bool × Int × Unit
abbrev uCx := (Int × (Nat × Nat) × Unit) × (List Near) × Unit
noncomputable def add1Res (R0 : add1Z → qHeapX1 → uCx → Prop) : List (Res add1Z) := [⟨Bool × Int × Unit, uCx, .cons 0 (.bool) (.ji 1 (.nil)), .cons qHeapXr0 (.cons (.rows En 46) (.nil)), R0⟩]
abbrev zadd1 (n : Near) (k : Int) (h : Nat × Nat) (m : List Near) : add1Z := (((), n, ()), (k, h, ()), m, ())
noncomputable abbrev qHeapXk0 := KLS [(37, lessK)] [(36, [(1, upC)]), (38, [(1, downC)])] 46
theorem add1Fn (n : Near) (k : Int) (h : Nat × Nat) (m : List Near) (R0 : add1Z → qHeapX1 → uCx → Prop) : (uA2 PP (runW PP qHeapXk0 200) 24 (add1T.cells id ((), n, ())) (stL false (add1Bl.obs id ((k, h, ()), m, ()))) (fun v st => uA1 1 (zadd1 n k h m) v st (add1Res R0))) = ( ifp (!uAf k (Int.ofNat h.1)) (T3 <| ∃ x : Int, some (I64 n.1) = some (I64 x) ∧ ∃ x_1 : Int, some (I64 n.2.1) = some (I64 x_1) ∧ 2 ≤ 2 ∧ ((h.2 < h.1.add 1 ∧ 0 = 0 ∧ h.1.mul 2 = (m.flatMap En.f).length ∧ roomy (h.1.add 1) 16 = true ∧ True ∧ True ∧ uAs PP 36 37 (uAd PP 36 1).loop upC ∧ True ∧ True ∧ ∃ (l : List Near), m.flatMap En.f ++ [I64 x, I64 x_1] = l.flatMap En.f ∧ true = true ∧ upInv (((h.1.add 1, h.1.add 1), uAa .i64 ((Int.ofNat (h.1.add 1)).sub 1), ()), l, ()) ∧ (∀ c d, upR0 (((h.1.add 1, h.1.add 1), uAa .i64 ((Int.ofNat (h.1.add 1)).sub 1), ()), l, ()) c d → ∃ l, Sa En d.1 l ∧ true = true ∧ R0 (zadd1 n k h m) (true, 0, ()) ((k, (h.1.add 1, h.1.add 1), ()), l, ())) ∧ (∀ c d, upR1 (((h.1.add 1, h.1.add 1), uAa .i64 ((Int.ofNat (h.1.add 1)).sub 1), ()), l, ()) c d → ∃ l, Sa En d.1 l ∧ true = true ∧ R0 (zadd1 n k h m) (true, 0, ()) ((k, (h.1.add 1, h.1.add 1), ()), l, ())) ∧ True) ∨ h.1.add 1 ≤ h.2 ∧ 1 ≠ 0 ∧ (Nat.add 0 (h.1.mul 2)).add 2 ≤ (m.flatMap En.f).length ∧ True ∧ True ∧ uAs PP 36 37 (uAd PP 36 1).loop upC ∧ True ∧ True ∧ ∃ (l : List Near), setAt (Nat.add 0 (h.1.mul 2)) [I64 x, I64 x_1] (m.flatMap En.f) = l.flatMap En.f ∧ true = true ∧ upInv (((h.1.add 1, h.2), uAa .i64 ((Int.ofNat (h.1.add 1)).sub 1), ()), l, ()) ∧ (∀ c d, upR0 (((h.1.add 1, h.2), uAa .i64 ((Int.ofNat (h.1.add 1)).sub 1), ()), l, ()) c d → ∃ l, Sa En d.1 l ∧ true = true ∧ R0 (zadd1 n k h m) (true, 0, ()) ((k, (h.1.add 1, h.2), ()), l, ())) ∧ (∀ c d, upR1 (((h.1.add 1, h.2), uAa .i64 ((Int.ofNat (h.1.add 1)).sub 1), ()), l, ()) c d → ∃ l, Sa En d.1 l ∧ true = true ∧ R0 (zadd1 n k h m) (true, 0, ()) ((k, (h.1.add 1, h.2), ()), l, ())) ∧ True)) (T3 <| ifp (uA0 k 0) (True ∧ ∃ l, Sa En m l ∧ true = true ∧ R0 (zadd1 n k h m) (false, 0, ()) ((k, h, ()), l, ())) (∃ x : Int, some (I64 n.1) = some (I64 x) ∧ ∃ x_1 : Int, some (I64 n.2.1) = some (I64 x_1) ∧ uAp 0 h.1 ∧ ∃ x_2 : Int, nth 0 (m.flatMap En.f) = some (I64 x_2) ∧ ∃ x_3 : Int, nth 1 (m.flatMap En.f) = some (I64 x_3) ∧ ∃ a : Near, Ag2 x x_1 a ∧ ∃ a_1 : Near, Ag2 x_2 x_3 a_1 ∧ lessPre (a, a_1, ()) ∧ ifp (uBs a a_1) (T4 <| ∃ x : Int, some (I64 n.1) = some (I64 x) ∧ ∃ x_4 : Int, some (I64 n.2.1) = some (I64 x_4) ∧ uAp 0 h.1 ∧ 2 ≤ (m.flatMap En.f).length ∧ True ∧ True ∧ uAs PP 38 57 (uAd PP 38 1).loop downC ∧ True ∧ True ∧ ∃ (l : List Near), setAt 0 [I64 x, I64 x_4] (m.flatMap En.f) = l.flatMap En.f ∧ true = true ∧ downInv ((h, 0, ()), l, ()) ∧ (∀ c d, downR0 ((h, 0, ()), l, ()) c d → ∃ l, Sa En d.1 l ∧ true = true ∧ R0 (zadd1 n k h m) (true, 0, ()) ((k, h, ()), l, ())) ∧ True) (T4 <| ∃ l, Sa En m l ∧ true = true ∧ R0 (zadd1 n k h m) (false, 0, ()) ((k, h, ()), l, ()))))) := by kernel_rfl
def add1Pre : add1Z → Prop := fun (((), n, ()), (k, h, ()), m, ()) => h = (m.length, m.length) ∧ Hp.Heap uBs m ∧ m.length ≤ 999999 ∧ 0 ≤ k
def add1R0 : add1Z → qHeapX1 → uCx → Prop := fun (((), n, ()), (k, h, ()), m, ()) (b, e, _) ((k2, h2, _), m2, _) => e = 0 ∧ k2 = k ∧ h2 = (m2.length, m2.length) ∧ addOk k m n b m2
noncomputable def add1K : uA6 := uD4 1 add1T add1Bl add1Pre (add1Res add1R0)
theorem add1Step (z : add1Z) (hp : add1Pre z) : uA2 PP (runW PP qHeapXk0 200) 24 (add1T.cells id z.1) (stL false (add1Bl.obs id z.2)) (fun v st => uA1 1 z v st (add1Res add1R0)) := by
 obtain ⟨⟨_, n, _⟩, ⟨⟨k, h, _⟩, m, _⟩⟩ := z
 refine (add1Fn n k h m _).mpr ?_
 obtain ⟨rfl, hH, hl, k0⟩ := hp
 rw [uAe]
 split
 ·rename_i hk
  have hk' : (m.length : Int) < k := hk
  have ew : uAa .i64 (Int.sub (Int.ofNat (m.length.add 1)) 1) = (m.length : Int) := by
   rw [w64 (by show _ ≤ ((m.length + 1 : Nat) : Int) - 1; omega) (by show ((m.length + 1 : Nat) : Int) - 1 < _; omega)]; show ((m.length + 1 : Nat) : Int) - 1 = _; omega
  have fin : ∀ m2 : List Near, m2.Perm (m ++ [n]) ∧ Hp.Heap uBs m2 → ∃ l : List Near, m2.flatMap En.f = l.flatMap En.f ∧ true = true ∧ add1R0 (((), n, ()), (k, (m.length, m.length), ()), m, ()) (true, 0, ()) ((k, (m.length.add 1, m.length.add 1), ()), l, ()) := fun m2 h2 => by
   have hl2 : m2.length = m.length + 1 := by rw [h2.1.length_eq]; simp
   exact ⟨m2, rfl, rfl, rfl, rfl, by show (m.length + 1, m.length + 1) = _; rw [hl2], by rw [addOk, if_pos hk']; exact ⟨rfl, h2⟩⟩
  refine ⟨trivial, trivial, trivial, _, rfl, _, rfl, by decide, Or.inl ⟨Nat.lt_succ_self _, rfl, (uEp m).symm, uAg (by show m.length + 1 ≤ _; omega) (by decide), trivial, trivial, upOk, trivial, trivial, m ++ [n], near_snoc, rfl, ⟨m.length, ew, by simp, by simp, by simp; omega, hH.up n⟩, fun _ d hr => fin d.1 hr, fun _ d hr => fin d.1 hr, trivial⟩⟩
 ·rename_i hk
  have hk' : ¬ (m.length : Int) < k := hk
  refine ⟨trivial, trivial, trivial, ?_⟩
  rw [uCz]
  split
  ·rename_i h0
   exact ⟨trivial, m, rfl, rfl, rfl, rfl, rfl, by rw [addOk, if_neg hk', if_pos (Or.inl h0)]; exact ⟨rfl, rfl⟩⟩
  ·rename_i h0
   have hm1 : 0 < m.length := by omega
   refine ⟨_, rfl, _, rfl, uA8 hm1, _, uCy hm1, _, uD1 hm1, n, rfl, m[0], rfl, trivial, ?_⟩
   rw [ifp_if]
   split
   ·rename_i hlt
    refine ⟨trivial, trivial, trivial, trivial, _, rfl, _, rfl, uA8 hm1, by rw [uEp]; omega, trivial, trivial, downOk, trivial, trivial, m.set 0 n, uDt hm1, rfl, ⟨0, rfl, by simp, by simpa using hm1, by simp; omega, hH.down n⟩, fun _ d hr => ?_, trivial⟩
    obtain ⟨m2, _⟩ := d
    have h2 : m2.Perm (m.set 0 n) ∧ Hp.Heap uBs m2 := hr
    have hl2 : m2.length = m.length := by rw [h2.1.length_eq]; simp
    exact ⟨m2, rfl, rfl, rfl, rfl, by show (m.length, m.length) = _; rw [hl2], by rw [addOk, if_neg hk', if_neg (by rw [hd_get hm1, hlt]; simp [h0])]; exact ⟨rfl, h2⟩⟩
   ·rename_i hlt
    exact ⟨trivial, trivial, trivial, trivial, m, rfl, rfl, rfl, rfl, rfl, by rw [addOk, if_neg hk', if_pos (Or.inr (by rw [hd_get hm1]; simpa using hlt))]; exact ⟨rfl, rfl⟩⟩
theorem add1Cc : CcOk PP 24 add1K := uB4 mixed (uCn (uAi lessCc (uAq))) rfl add1Step
abbrev add0Z := (Unit × Near × Unit) × ((Int × Unit × Unit) × Unit)
noncomputable def add0T : Tel (Unit × Near × Unit) := .cons 0 (.ptr 0) (.cons 1 (.agg En) (.nil))
noncomputable abbrev qHeapXr1 := Bk.row (.ji 0 (.cons 1 (.nilS) (.nil)))
noncomputable def add0Bl : BTel ((Int × Unit × Unit) × Unit) := .cons qHeapXr1 (.nil)
abbrev uCw := (Int × Unit × Unit) × Unit
noncomputable def add0Res (R0 : add0Z → qHeapX1 → uCw → Prop) (R1 : add0Z → qHeapX1 → uCx → Prop) : List (Res add0Z) := [⟨Bool × Int × Unit, uCw, .cons 0 (.bool) (.ji 1 (.nil)), .cons qHeapXr1 (.nil), R0⟩, ⟨Bool × Int × Unit, uCx, .cons 0 (.bool) (.ji 1 (.nil)), .cons qHeapXr0 (.cons (.rows En 46) (.nil)), R1⟩]
theorem add0Fn (n : Near) (k : Int) (R0 : add0Z → qHeapX1 → uCw → Prop) (R1 : add0Z → qHeapX1 → uCx → Prop) : (uA2 PP (runW PP qHeapXk0 200) 24 (add0T.cells id ((), n, ())) (stL false (add0Bl.obs id ((k, (), ()), ()))) (fun v st => uA1 1 (((), n, ()), (k, (), ()), ()) v st (add0Res R0 R1))) = ( ifp (!uAf k 0) (T3 <| ∃ x : Int, some (I64 n.1) = some (I64 x) ∧ ∃ x_1 : Int, some (I64 n.2.1) = some (I64 x_1) ∧ 2 ≤ 2 ∧ 1 ≠ 0 ∧ true = true ∧ True ∧ True ∧ uAs PP 36 37 (uAd PP 36 1).loop upC ∧ True ∧ True ∧ ∃ (l : List Near), [I64 x, I64 x_1] = l.flatMap En.f ∧ true = true ∧ upInv (((1, 1), 0, ()), l, ()) ∧ (∀ c d, upR0 (((1, 1), 0, ()), l, ()) c d → False ∨ ∃ l, Sa En d.1 l ∧ true = true ∧ R1 (((), n, ()), (k, (), ()), ()) (true, 0, ()) ((k, (1, 1), ()), l, ())) ∧ (∀ c d, upR1 (((1, 1), 0, ()), l, ()) c d → False ∨ ∃ l, Sa En d.1 l ∧ true = true ∧ R1 (((), n, ()), (k, (), ()), ()) (true, 0, ()) ((k, (1, 1), ()), l, ())) ∧ True) (T3 <| ifp (uA0 k 0) (True ∧ (true = true ∧ R0 (((), n, ()), (k, (), ()), ()) (false, 0, ()) ((k, (), ()), ()) ∨ False)) (∃ x : Int, some (I64 n.1) = some (I64 x) ∧ ∃ x : Int, some (I64 n.2.1) = some (I64 x) ∧ False))) := by kernel_rfl
def add0Pre : add0Z → Prop := fun (((), n, ()), (k, (), ()), ()) => 0 ≤ k
def add0R0 : add0Z → qHeapX1 → uCw → Prop := fun (((), n, ()), (k, (), ()), ()) (b, e, _) ((k2, _), _) => b = false ∧ e = 0 ∧ k2 = k ∧ k = 0
def add0R1 : add0Z → qHeapX1 → uCx → Prop := fun (((), n, ()), (k, (), ()), ()) (b, e, _) ((k2, h2, _), m2, _) => b = true ∧ e = 0 ∧ k2 = k ∧ 0 < k ∧ h2 = (1, 1) ∧ m2 = [n]
noncomputable def add0K : uA6 := uD4 1 add0T add0Bl add0Pre (add0Res add0R0 add0R1)
theorem add0Step (z : add0Z) (hp : add0Pre z) : uA2 PP (runW PP qHeapXk0 200) 24 (add0T.cells id z.1) (stL false (add0Bl.obs id z.2)) (fun v st => uA1 1 z v st (add0Res add0R0 add0R1)) := by
 obtain ⟨⟨_, n, _⟩, ⟨⟨k, _, _⟩, _⟩⟩ := z
 refine (add0Fn n k _ _).mpr ?_
 have hp' : 0 ≤ k := hp
 rw [uAe]
 split
 ·rename_i hk
  have fin : ∀ m2 : List Near, m2.Perm [n] ∧ Hp.Heap uBs m2 → False ∨ ∃ l : List Near, m2.flatMap En.f = l.flatMap En.f ∧ true = true ∧ add0R1 (((), n, ()), (k, (), ()), ()) (true, 0, ()) ((k, (1, 1), ()), l, ()) := fun m2 h2 => by
   obtain rfl := List.perm_singleton.1 h2.1
   exact Or.inr ⟨[n], rfl, rfl, rfl, rfl, rfl, hk, rfl, rfl⟩
  refine ⟨trivial, trivial, trivial, _, rfl, _, rfl, by decide, by decide, rfl, trivial, trivial, upOk, trivial, trivial, [n], rfl, rfl, ⟨0, rfl, rfl, by simp, by simp, ?_⟩, fun _ d hr => fin d.1 hr, fun _ d hr => fin d.1 hr, trivial⟩
  exact Hp.Heap.up (l := []) (fun j hj => by simp at hj) n
 ·rename_i hk
  refine ⟨trivial, trivial, trivial, ?_⟩
  rw [uCz, if_pos (by omega)]
  exact ⟨trivial, Or.inl ⟨rfl, rfl, rfl, rfl, by omega⟩⟩
theorem add0Cc : CcOk PP 24 add0K := uB4 mixed (uCn (uAi lessCc (uAq))) rfl add0Step
noncomputable def addK : uA6 := orC add1K add0K
theorem addCc : CcOk PP 24 addK := orC_ok add1Cc add0Cc
abbrev qHeapXt1 := Unit × Unit
abbrev list1Z := qHeapXt1 × uCx
noncomputable def list1T : Tel qHeapXt1 := .cons 0 (.ptr 0) (.nil)
noncomputable def list1Bl : BTel uCx := .cons qHeapXr0 (.cons (.rows En 46) (.nil))
noncomputable def list1Res (R0 : list1Z → uC6 → uCx → Prop) : List (Res list1Z) := [⟨(List Near) × Unit, uCx, .cons 0 (.lst En) (.nil), .cons qHeapXr0 (.cons (.rows En 46) (.nil)), R0⟩]
noncomputable abbrev qHeapXk2 := KLS [(49, sortK)] [] 46
theorem list1Fn (k : Int) (h : Nat × Nat) (m : List Near) (R0 : list1Z → uC6 → uCx → Prop) : (uA2 PP (runW PP qHeapXk2 200) 28 (list1T.cells id ((), ())) (stL false (list1Bl.obs id ((k, h, ()), m, ()))) (fun v st => Go.Det.frz1 v st fun v st => uA1 2 (((), ()), (k, h, ()), m, ()) v st (list1Res R0))) = ( (0 : Int) ≤ Int.ofNat h.1 ∧ Int.ofNat h.1 ≤ Int.ofNat h.1 ∧ Int.ofNat h.1 ≤ 16777216 ∧ roomy (uAc (Int.ofNat h.1)) 16 = true ∧ Nat.add 0 ((minN h.1 (uAc (Int.ofNat h.1))).mul 2) ≤ (m.flatMap En.f).length ∧ ifp (uAm (List.take ((minN h.1 (uAc (Int.ofNat h.1))).mul 2) (List.drop 0 (m.flatMap En.f)))) (Nat.add 0 (List.take ((minN h.1 (uAc (Int.ofNat h.1))).mul 2) (List.drop 0 (m.flatMap En.f))).length ≤ (repl (uAc (Int.ofNat h.1)) [I64 0, I64 0]).length ∧ ((∃ (l : List Near), setAt 0 (List.take ((minN h.1 (uAc (Int.ofNat h.1))).mul 2) (List.drop 0 (m.flatMap En.f))) (repl (uAc (Int.ofNat h.1)) [I64 0, I64 0]) = l.flatMap En.f ∧ true = true ∧ ((uAc (Int.ofNat h.1), uAc (Int.ofNat h.1)).1 = l.length ∧ l.length < 4611686018427387904) ∧ (∀ (c : Unit) (d : List Near × Unit), d.1 = uBq l → Nat.add 0 ((uAc (Int.ofNat h.1)).mul 2) ≤ (List.flatMap En.f d.1).length ∧ ∃ (l : List Near), Wk (AV.vs (List.take ((uAc (Int.ofNat h.1)).mul 2) (List.drop 0 (List.flatMap En.f d.1))) (uAc (Int.ofNat h.1)) (uAc (Int.ofNat h.1)) true none 2) (lst En l) ∧ ∃ l_1, Sa En m l_1 ∧ true = true ∧ R0 (((), ()), (k, h, ()), m, ()) (l, ()) ((k, h, ()), l_1, ())) ∧ True) ∨ False)) False) := by kernel_rfl
def list1Pre : list1Z → Prop := fun (((), ()), (k, h, ()), m, ()) => h = (m.length, m.length) ∧ m.length ≤ 1000000
def list1R0 : list1Z → uC6 → uCx → Prop := fun (((), ()), (k, h, ()), m, ()) (o, _) ((k2, h2, _), m2, _) => o = uBq m ∧ k2 = k ∧ h2 = h ∧ m2 = m
noncomputable def list1K : uA6 := uD4 2 list1T list1Bl list1Pre (list1Res list1R0)
theorem list1Step (z : list1Z) (hp : list1Pre z) : uA2 PP (runW PP qHeapXk2 200) 28 (list1T.cells id z.1) (stL false (list1Bl.obs id z.2)) (fun v st => Go.Det.frz1 v st fun v st => uA1 2 z v st (list1Res list1R0)) := by
 obtain ⟨⟨_, _⟩, ⟨⟨k, h, _⟩, m, _⟩⟩ := z
 refine (list1Fn k h m _).mpr ?_
 obtain ⟨rfl, hl⟩ := hp
 have e1 : minN (m.length, m.length).fst (uAc (Int.ofNat (m.length, m.length).fst)) = m.length := by show minN m.length m.length = _; rw [minN, show Nat.ble m.length m.length = true from ble_t (Nat.le_refl _), ifb_true]
 have e2 : List.take (m.length.mul 2) (List.drop 0 (m.flatMap En.f)) = m.flatMap En.f := by rw [List.drop_zero, List.take_of_length_le (by rw [uEp]; exact Nat.le_refl _)]
 have e3 : (repl (uAc (Int.ofNat (m.length, m.length).fst)) [AV.int .i64 0, AV.int .i64 0]) = (List.replicate m.length ((0, 0, ()) : Near)).flatMap En.f := repl_enc (E := En) (x := (0, 0, ())) _
 have hs := nearSort_len m
 refine ⟨by show (0 : Int) ≤ (m.length : Int); omega, Int.le_refl _, by show (m.length : Int) ≤ _; omega, uAg (by show m.length ≤ _; omega) (by decide), ?_⟩
 rw [e1, e2, e3, uAj (Enc.fscal En m)]
 refine ⟨by rw [uEp]; show 0 + m.length * 2 ≤ _; omega, by rw [uEp, uEp, List.length_replicate]; show 0 + _ ≤ _; omega, Or.inl ⟨m, ?_, rfl, ⟨rfl, by omega⟩, fun _ d hd => ?_, trivial⟩⟩
 ·rw [setAt, List.take_zero, List.drop_of_length_le (by rw [uEp, uEp, List.length_replicate]; omega)]; simp
 ·obtain ⟨s, _⟩ := d
  obtain rfl : s = uBq m := hd
  refine ⟨by rw [uEp, hs]; show 0 + m.length * 2 ≤ _; omega, uBq m, wk_vs ⟨?_, hs.symm, rfl⟩, m, rfl, rfl, rfl, rfl, rfl, rfl⟩
  show List.take (m.length * 2) _ = _
  rw [List.drop_zero, List.take_of_length_le (by rw [uEp, hs]; exact Nat.le_refl _)]
theorem list1Cc : CcOk PP 28 list1K := call_okF mixed (uCn (uAi sortCc (uAq))) rfl list1Step
abbrev list0Z := qHeapXt1 × uCw
noncomputable def list0T : Tel qHeapXt1 := .cons 0 (.ptr 0) (.nil)
noncomputable def list0Bl : BTel uCw := .cons qHeapXr1 (.nil)
noncomputable def list0Res (R0 : list0Z → uC6 → uCw → Prop) : List (Res list0Z) := [⟨(List Near) × Unit, uCw, .cons 0 (.lst En) (.nil), .cons qHeapXr1 (.nil), R0⟩]
theorem list0Fn (k : Int) (R0 : list0Z → uC6 → uCw → Prop) : (uA2 PP (runW PP qHeapXk2 200) 28 (list0T.cells id ((), ())) (stL false (list0Bl.obs id ((k, (), ()), ()))) (fun v st => Go.Det.frz1 v st fun v st => uA1 1 (((), ()), (k, (), ()), ()) v st (list0Res R0))) = ( (0 : Int) ≤ 0 ∧ (0 : Int) ≤ 0 ∧ (0 : Int) ≤ 16777216 ∧ true = true ∧ 0 ≤ 0 ∧ ((∃ (l : List Near), setAt 0 [] [] = l.flatMap En.f ∧ true = true ∧ (0 = l.length ∧ l.length < 4611686018427387904) ∧ (∀ (c : Unit) (d : List Near × Unit), d.1 = uBq l → 0 ≤ (List.flatMap En.f d.1).length ∧ ∃ (l : List Near), Wk (AV.vs [] 0 0 true none 2) (lst En l) ∧ true = true ∧ R0 (((), ()), (k, (), ()), ()) (l, ()) ((k, (), ()), ())) ∧ True) ∨ False)) := by kernel_rfl
def list0Pre : list0Z → Prop := fun (((), ()), (k, (), ()), ()) => True
def list0R0 : list0Z → uC6 → uCw → Prop := fun (((), ()), (k, (), ()), ()) (o, _) ((k2, _), _) => o = [] ∧ k2 = k
noncomputable def list0K : uA6 := uD4 1 list0T list0Bl list0Pre (list0Res list0R0)
theorem list0Step (z : list0Z) (hp : list0Pre z) : uA2 PP (runW PP qHeapXk2 200) 28 (list0T.cells id z.1) (stL false (list0Bl.obs id z.2)) (fun v st => Go.Det.frz1 v st fun v st => uA1 1 z v st (list0Res list0R0)) := by
 obtain ⟨⟨_, _⟩, ⟨⟨k, _, _⟩, _⟩⟩ := z
 refine (list0Fn k _).mpr ?_
 exact ⟨by decide, by decide, by decide, rfl, by decide, Or.inl ⟨[], rfl, rfl, ⟨rfl, by simp⟩, fun _ d hd => ⟨Nat.zero_le _, [], wk_vs ⟨rfl, rfl, rfl⟩, rfl, rfl, rfl⟩, trivial⟩⟩
theorem list0Cc : CcOk PP 28 list0K := call_okF mixed (uCn (uAi sortCc (uAq))) rfl list0Step
noncomputable def tlistK : uA6 := orC list1K list0K
theorem tlistCc : CcOk PP 28 tlistK := orC_ok list1Cc list0Cc
def keepV (K : Int) (L : List Near) (n : Near) : Bool := !(decide ((L.length : Int) = K) && (decide (K = 0) || !uBs n (L.getLastD n)))
def uBr (K : Int) (L : List Near) (n : Near) : List Near := if keepV K L n = true then (insV L n).take K.toNat else L
def worstV (k : Int) (m : List Near) : Near × Bool := if (m.length : Int) = k ∧ k ≠ 0 then (m.headD (0, 0, ()), true) else ((0, 0, ()), false)
def uB2 (K : Int) (L : List Near) : Near × Bool := if K = 0 ∨ (L.length : Int) < K then ((0, 0, ()), false) else (L.getLastD (0, 0, ()), true)
theorem uEs {L : List Near} {p : Nat} (n : Near) (h : L.length = p + 1) : L.getLastD n = L[p] := by
 rw [List.getLastD_eq_getLast?, List.getLast?_eq_getElem?]; simp [h]
theorem keep_ne {K : Int} {L : List Near} {n : Near} (h : ¬ (L.length : Int) = K) : keepV K L n = true := by simp [keepV, h]
theorem keep_no {K : Int} {L : List Near} {n : Near} (h : (L.length : Int) = K) (h2 : K = 0 ∨ uBs n (L.getLastD n) = false) : keepV K L n = false := by
 rcases h2 with h2 | h2
 ·simp [keepV, h, h2]
 ·rw [keepV, h2]; simp [h]
theorem keep_yes {K : Int} {L : List Near} {n : Near} (h : K ≠ 0) (h2 : uBs n (L.getLastD n) = true) : keepV K L n = true := by rw [keepV, h2]; simp [h]
abbrev worst1Z := qHeapXt1 × uCx
noncomputable def worst1T : Tel qHeapXt1 := .cons 0 (.ptr 0) (.nil)
noncomputable def worst1Bl : BTel uCx := .cons qHeapXr0 (.cons (.rows En 46) (.nil))
abbrev qHeapX4 := Near × Bool × Unit
noncomputable def worst1Res (R0 : worst1Z → qHeapX4 → uCx → Prop) : List (Res worst1Z) := [⟨Near × Bool × Unit, uCx, .cons 0 (.agg En) (.cons 1 (.bool) (.nil)), .cons qHeapXr0 (.cons (.rows En 46) (.nil)), R0⟩]
theorem worst1Fn (k : Int) (h : Nat × Nat) (m : List Near) (R0 : worst1Z → qHeapX4 → uCx → Prop) : (uA2 PP (runW PP (KLS [] [] 46) 200) 23 (worst1T.cells id ((), ())) (stL false (worst1Bl.obs id ((k, h, ()), m, ()))) (fun v st => uA1 2 (((), ()), (k, h, ()), m, ()) v st (worst1Res R0))) = ( ifp (uA0 (Int.ofNat h.1) k) (T3 <| ifp (uA0 k 0) (2 ≤ 2 ∧ ∃ a : Near, Ag2 0 0 a ∧ ∃ l, Sa En m l ∧ true = true ∧ R0 (((), ()), (k, h, ()), m, ()) (a, false, ()) ((k, h, ()), l, ())) (uAp 0 h.1 ∧ ∃ x : Int, nth 0 (m.flatMap En.f) = some (I64 x) ∧ ∃ x_1 : Int, nth 1 (m.flatMap En.f) = some (I64 x_1) ∧ 2 ≤ 2 ∧ ∃ a : Near, Ag2 x x_1 a ∧ ∃ l, Sa En m l ∧ true = true ∧ R0 (((), ()), (k, h, ()), m, ()) (a, true, ()) ((k, h, ()), l, ()))) (T3 <| 2 ≤ 2 ∧ ∃ a : Near, Ag2 0 0 a ∧ ∃ l, Sa En m l ∧ true = true ∧ R0 (((), ()), (k, h, ()), m, ()) (a, false, ()) ((k, h, ()), l, ()))) := by kernel_rfl
def worst1Pre : worst1Z → Prop := fun (((), ()), (k, h, ()), m, ()) => h = (m.length, m.length)
def worst1R0 : worst1Z → qHeapX4 → uCx → Prop := fun (((), ()), (k, h, ()), m, ()) (x, b, _) ((k2, h2, _), m2, _) => (x, b) = worstV k m ∧ k2 = k ∧ h2 = h ∧ m2 = m
noncomputable def worst1K : uA6 := uD4 2 worst1T worst1Bl worst1Pre (worst1Res worst1R0)
theorem worst1Step (z : worst1Z) (hp : worst1Pre z) : uA2 PP (runW PP (KLS [] [] 46) 200) 23 (worst1T.cells id z.1) (stL false (worst1Bl.obs id z.2)) (fun v st => uA1 2 z v st (worst1Res worst1R0)) := by
 obtain ⟨⟨_, _⟩, ⟨⟨k, h, _⟩, m, _⟩⟩ := z
 refine (worst1Fn k h m _).mpr ?_
 obtain rfl : h = (m.length, m.length) := hp
 rw [uCz]
 split
 ·rename_i h
  refine ⟨trivial, trivial, trivial, ?_⟩
  rw [uCz]
  split
  ·rename_i h0
   exact ⟨by decide, (0, 0, ()), rfl, m, rfl, by first | trivial | rfl, by rw [worstV, if_neg (fun c => c.2 h0)], rfl, rfl, rfl⟩
  ·rename_i h0
   have hm : 0 < m.length := by have h' : ((m.length : Nat) : Int) = k := h; omega
   exact ⟨uA8 hm, _, uCy hm, _, uD1 hm, by decide, m[0], rfl, m, rfl, by first | trivial | rfl, by rw [worstV, if_pos ⟨h, h0⟩, hd_get hm], rfl, rfl, rfl⟩
 ·rename_i h
  exact ⟨trivial, trivial, trivial, by decide, (0, 0, ()), rfl, m, rfl, by first | trivial | rfl, by rw [worstV, if_neg (fun c => h c.1)], rfl, rfl, rfl⟩
theorem worst1Cc : CcOk PP 23 worst1K := uB4 mixed (uCn (uAq)) rfl worst1Step
abbrev worst0Z := qHeapXt1 × uCw
noncomputable def worst0T : Tel qHeapXt1 := .cons 0 (.ptr 0) (.nil)
noncomputable def worst0Bl : BTel uCw := .cons qHeapXr1 (.nil)
noncomputable def worst0Res (R0 : worst0Z → qHeapX4 → uCw → Prop) : List (Res worst0Z) := [⟨Near × Bool × Unit, uCw, .cons 0 (.agg En) (.cons 1 (.bool) (.nil)), .cons qHeapXr1 (.nil), R0⟩]
theorem worst0Fn (k : Int) (R0 : worst0Z → qHeapX4 → uCw → Prop) : (uA2 PP (runW PP (KLS [] [] 46) 200) 23 (worst0T.cells id ((), ())) (stL false (worst0Bl.obs id ((k, (), ()), ()))) (fun v st => uA1 1 (((), ()), (k, (), ()), ()) v st (worst0Res R0))) = ( ifp (uA0 0 k) (T3 <| ifp (uA0 k 0) (2 ≤ 2 ∧ ∃ a : Near, Ag2 0 0 a ∧ true = true ∧ R0 (((), ()), (k, (), ()), ()) (a, false, ()) ((k, (), ()), ())) False) (T3 <| 2 ≤ 2 ∧ ∃ a : Near, Ag2 0 0 a ∧ true = true ∧ R0 (((), ()), (k, (), ()), ()) (a, false, ()) ((k, (), ()), ()))) := by kernel_rfl
def worst0Pre : worst0Z → Prop := fun (((), ()), (k, (), ()), ()) => True
def worst0R0 : worst0Z → qHeapX4 → uCw → Prop := fun (((), ()), (k, (), ()), ()) (x, b, _) ((k2, _), _) => (x, b) = worstV k [] ∧ k2 = k
noncomputable def worst0K : uA6 := uD4 1 worst0T worst0Bl worst0Pre (worst0Res worst0R0)
theorem worst0Step (z : worst0Z) (hp : worst0Pre z) : uA2 PP (runW PP (KLS [] [] 46) 200) 23 (worst0T.cells id z.1) (stL false (worst0Bl.obs id z.2)) (fun v st => uA1 1 z v st (worst0Res worst0R0)) := by
 obtain ⟨⟨_, _⟩, ⟨⟨k, _, _⟩, _⟩⟩ := z
 refine (worst0Fn k _).mpr ?_
 rw [uCz]
 split
 ·rename_i h
  refine ⟨trivial, trivial, trivial, ?_⟩
  rw [uCz, if_pos h.symm]
  exact ⟨by decide, (0, 0, ()), rfl, by first | trivial | rfl, by rw [worstV, if_neg (fun c => c.2 h.symm)], rfl⟩
 ·rename_i h
  exact ⟨trivial, trivial, trivial, by decide, (0, 0, ()), rfl, by first | trivial | rfl, by rw [worstV, if_neg (fun c => h c.1)], rfl⟩
theorem worst0Cc : CcOk PP 23 worst0K := uB4 mixed (uCn (uAq)) rfl worst0Step
noncomputable def worstK : uA6 := orC worst1K worst0K
theorem worstCc : CcOk PP 23 worstK := orC_ok worst1Cc worst0Cc
structure TopOk (k : Int) (m L : List Near) : Prop where
 p : m.Perm L
 s : Srt L
 h : Hp.Heap uBs m
 l : (L.length : Int) ≤ k
theorem TopOk.len {k : Int} {m L : List Near} (h : TopOk k m L) : m.length = L.length := h.p.length_eq
theorem TopOk.last {k : Int} {m L : List Near} (h : TopOk k m L) (h0 : 0 < m.length) (n : Near) : L.getLastD n = m[0] := by
 obtain ⟨p, hp⟩ : ∃ p, L.length = p + 1 := ⟨L.length - 1, by have := h.len; omega⟩
 rw [uEs n hp]
 have hpl : p < L.length := by omega
 have h1 : m[0] ∈ L := h.p.mem_iff.1 (List.getElem_mem h0)
 have h2 : L[p] ∈ m := h.p.mem_iff.2 (List.getElem_mem hpl)
 obtain ⟨i, hi, e1⟩ := List.getElem_of_mem h1
 obtain ⟨j, hj, e2⟩ := List.getElem_of_mem h2
 refine uDm.tot _ _ ?_ ?_
 ·rw [← e1]; exact h.s.get hi hpl (by omega)
 ·rw [← e2]; exact Hp.Heap.root uDm h.h j hj
theorem TopOk.worst {k : Int} {m L : List Near} (h : TopOk k m L) : worstV k m = uB2 k L := by
 have hl := h.len
 have hk := h.l
 rw [worstV, uB2]
 by_cases c : (m.length : Int) = k ∧ k ≠ 0
 ·have h0 : 0 < m.length := by omega
  rw [if_pos c, if_neg (by omega), h.last h0, hd_get h0]
 ·rw [if_neg c, if_pos (by omega)]
theorem TopOk.list {k : Int} {m L : List Near} (h : TopOk k m L) : uBq m = L := srt_unique (uDl m) h.s ((uB8 m).trans h.p)
theorem TopOk.add {k : Int} {m L m2 : List Near} {n : Near} {b : Bool} (h : TopOk k m L) (k0 : 0 ≤ k) (ha : addOk k m n b m2) : b = keepV k L n ∧ TopOk k m2 (uBr k L n) := by
 have hl := h.len
 have hk := h.l
 have hil := insV_len L n
 unfold addOk at ha
 split at ha
 ·rename_i c
  obtain ⟨rfl, hp, hh⟩ := ha
  have hy : keepV k L n = true := keep_ne (by omega)
  have e : uBr k L n = insV L n := by rw [uBr, if_pos hy, List.take_of_length_le (by omega)]
  refine ⟨hy.symm, ?_⟩
  rw [e]
  exact ⟨hp.trans ((List.perm_append_comm.trans (h.p.cons n)).trans (ins_perm L n).symm), ins_sorted h.s n, hh, by omega⟩
 ·rename_i c
  have hlk : (L.length : Int) = k := by omega
  by_cases hk0 : k = 0
  ·rw [if_pos (Or.inl hk0)] at ha
   obtain ⟨rfl, rfl⟩ := ha
   have hn := keep_no (n := n) hlk (Or.inl hk0)
   exact ⟨hn.symm, by rw [uBr, if_neg (by rw [hn]; simp)]; exact h⟩
  ·have h0 : 0 < m.length := by omega
   have hlast := h.last h0 n
   rw [hd_get h0, ← hlast] at ha
   split at ha
   ·rename_i c2
    obtain ⟨rfl, rfl⟩ := ha
    have hn := keep_no (n := n) hlk (Or.inr (c2.resolve_left hk0))
    exact ⟨hn.symm, by rw [uBr, if_neg (by rw [hn]; simp)]; exact h⟩
   ·rename_i c2
    obtain ⟨rfl, hp, hh⟩ := ha
    have hlt : uBs n (L.getLastD n) = true := by
     cases q : uBs n (L.getLastD n) with
     | true => rfl
     | false => exact absurd (Or.inr q) c2
    have hy := keep_yes (K := k) (L := L) (n := n) hk0 hlt
    have e : uBr k L n = (insV L n).take L.length := by rw [uBr, if_pos hy]; congr 1; omega
    refine ⟨hy.symm, ?_⟩
    rw [e]
    obtain ⟨p, hpl⟩ : ∃ p, L.length = p + 1 := ⟨L.length - 1, by omega⟩
    have hpos : posV L n L.length ≤ p := by
     have := (posV_spec L n L.length (Nat.le_refl _)).2
     have hle := posV_le L n L.length
     rcases Nat.lt_or_ge p (posV L n L.length) with q | q
     ·exfalso
      have q2 : posV L n L.length = p + 1 := by omega
      rcases this with t | ⟨t1, t2⟩
      ·omega
      ·simp only [q2] at t2
       rw [uEs n hpl] at hlt
       simp only [Nat.add_sub_cancel] at t2
       rw [t2] at hlt; cases hlt
     ·exact q
    have hsplit : insV L n = (insV L n).take L.length ++ [L[p]'(by omega)] := by
     conv => lhs; rw [← List.take_append_drop L.length (insV L n)]
     congr 1
     rw [insV, List.drop_append]
     generalize posV L n L.length = q at *
     rw [List.drop_of_length_le (by rw [List.length_take]; omega), List.length_take, Nat.min_eq_left (by omega), List.nil_append,
      show L.length - q = (L.length - q - 1) + 1 by omega, List.drop_succ_cons, List.drop_drop, show q + (L.length - q - 1) = p by omega, uBx (show p < L.length by omega), List.drop_of_length_le (by omega)]
    have hm : m = m[0] :: m.drop 1 := by cases m with | nil => simp at h0 | cons a m => rfl
    have hset : m.set 0 n = n :: m.drop 1 := by cases m with | nil => simp at h0 | cons a m => rfl
    have hperm : ((insV L n).take L.length).Perm (n :: m.drop 1) := by
     have h1 : ((insV L n).take L.length ++ [L[p]'(by omega)]).Perm ((n :: m.drop 1) ++ [L[p]'(by omega)]) := by
      rw [← hsplit]
      refine (ins_perm L n).trans ?_
      refine ((h.p.symm.cons n)).trans ?_
      rw [hm]
      rw [uEs n hpl] at hlast
      rw [show (m[0] :: m.drop 1).drop 1 = m.drop 1 from rfl, hlast]
      exact ((List.perm_append_comm (l₁ := m.drop 1) (l₂ := [m[0]])).symm.cons n)
     exact (List.perm_append_right_iff _).1 h1
    exact ⟨hp.trans (by rw [hset]; exact hperm.symm), (ins_sorted h.s n).sublist (List.take_sublist _ _), hh, by rw [List.length_take]; omega⟩
abbrev newYZ := (Int × Unit) × (Unit)
noncomputable def newYT : Tel (Int × Unit) := .ji 0 (.nil)
noncomputable def newYBl : BTel (Unit) := .nil
abbrev qHeapX5 := Unit × Unit × Unit
noncomputable def newYRes (R0 : newYZ → qHeapX5 → uCw → Prop) : List (Res newYZ) := [⟨Unit × Unit × Unit, uCw, .cons 0 (.ptr 0) (.cons 1 (.num .i64 0) (.nil)), .cons qHeapXr1 (.nil), R0⟩]
theorem newYFn (k : Int) (R0 : newYZ → qHeapX5 → uCw → Prop) : (uA2 PP (runW PP (KL [] []) 200) 22 (newYT.cells id (k, ())) (stL false (newYBl.obs id ())) (fun v st => uA1 0 ((k, ()), ()) v st (newYRes R0))) = ( ifp (!uAf 0 k) False (ifp (!uAf k 16777216) False (true = true ∧ R0 ((k, ()), ()) ((), (), ()) ((k, (), ()), ())))) := by kernel_rfl
def newYPre : newYZ → Prop := fun ((k, ()), ()) => 0 ≤ k ∧ k ≤ 16777216
def newYR0 : newYZ → qHeapX5 → uCw → Prop := fun ((k, ()), ()) _ ((k2, _), _) => k2 = k
noncomputable def newYK : uA6 := uD4 0 newYT newYBl newYPre (newYRes newYR0)
theorem newYStep (z : newYZ) (hp : newYPre z) : uA2 PP (runW PP (KL [] []) 200) 22 (newYT.cells id z.1) (stL false (newYBl.obs id z.2)) (fun v st => uA1 0 z v st (newYRes newYR0)) := by
 obtain ⟨⟨k, _⟩, _⟩ := z
 refine (newYFn k _).mpr ?_
 obtain ⟨h1, h2⟩ := hp
 rw [uAe, if_neg (by omega), uAe, if_neg (by omega)]
 exact ⟨rfl, rfl⟩
theorem newYCc : CcOk PP 22 newYK := uB4 mixed (uC8 (uAq)) rfl newYStep
end Go.Proofs.YteehkdejkemnmacDoor
