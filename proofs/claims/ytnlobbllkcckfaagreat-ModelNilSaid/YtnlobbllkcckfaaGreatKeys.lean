/- The contract of the sorted keys of a map with int64 keys, at this program: the library's, and the machine's table of it. -/
import Derived.Shelf.SlIterI.Nil
import Derived.Shelf.SortM.Plain
import Derived.Shelf.SortM.SortNone
import Derived.Ground.GgzProg
import Derived.Ground.SlgmProg
import Derived.Test.YtnlobbllkcckfaaGreatProg
import Derived.Test.YtnlobbllkcckfaaGreatDvKeys
set_option linter.unusedVariables false
namespace Go.Proofs
open Go.Shelf
def Tryz.keys119_ren : Go.Shelf.Ren := ⟨fun | 7 => 66 | 10 => 119 | n => n, fun | 23 => 67 | 26 => 2 | 3 => 31 | 28 => 121 | 0 => 0 | 27 => 120 | 33 => 209 | 4 => 4 | n => n, fun | n => n⟩
theorem Tryz.keys119 : Go.Proofs.SlLaysZI.n7 Tryz.prog Tryz.keys119_ren := {
  mixed := by kernel_rfl
  f7 := ⟨Tryz.f66.name, by decide, Tryz.func66.trans (congrArg some (by kernel_rfl))⟩
  f10 := ⟨Tryz.f119.name, by decide, Tryz.func119.trans (congrArg some (by kernel_rfl))⟩
  t0 := Tryz.underlying0
  a0 := Tryz.isAgg0
  z0 := Tryz.sizeOf0
  v0 := Tryz.zeroValue0
  t4 := Tryz.underlying4
  a4 := Tryz.isAgg4
  z4 := Tryz.sizeOf4
  v4 := Tryz.zeroValue4
  t23 := Tryz.underlying67
  a23 := Tryz.isAgg67
  z23 := Tryz.sizeOf67
  v23 := Tryz.zeroValue67
  t26 := Tryz.underlying2
  a26 := Tryz.isAgg2
  z26 := Tryz.sizeOf2
  v26 := Tryz.zeroValue2
  t27 := Tryz.underlying120
  a27 := Tryz.isAgg120
  z27 := Tryz.sizeOf120
  v27 := Tryz.zeroValue120
  t28 := Tryz.underlying121
  a28 := Tryz.isAgg121
  z28 := Tryz.sizeOf121
  v28 := Tryz.zeroValue121
  t33 := Tryz.underlying209
  a33 := Tryz.isAgg209
  z33 := Tryz.sizeOf209
  v33 := Tryz.zeroValue209 }
def Tryz.sortedA_ren : Go.Shelf.Ren := ⟨fun | 6 => 65 | 8 => 117 | 9 => 118 | 11 => 195 | 13 => 197 | 12 => 196 | 23 => 268 | 24 => 269 | 14 => 259 | 15 => 260 | 16 => 261 | 17 => 262 | 18 => 263 | 19 => 264 | 20 => 265 | 21 => 266 | 22 => 267 | 25 => 330 | 26 => 331 | 27 => 332 | 28 => 333 | 29 => 334 | 30 => 252 | 31 => 365 | n => n, fun | 26 => 2 | 28 => 121 | 24 => 68 | 0 => 0 | 3 => 3 | 37 => 114 | 48 => 350 | 50 => 58 | 4 => 4 | 40 => 343 | 39 => 342 | 45 => 295 | 5 => 5 | 9 => 9 | 51 => 398 | 55 => 402 | 57 => 431 | 58 => 432 | 33 => 209 | n => n, fun | n => n⟩
theorem Tryz.sortedA : Go.Proofs.SlLaysZI.n6 Tryz.prog Tryz.sortedA_ren := {
  mixed := by kernel_rfl
  f6 := ⟨Tryz.f65.name, by decide, Tryz.func65.trans (congrArg some (by kernel_rfl))⟩
  f8 := ⟨Tryz.f117.name, by decide, Tryz.func117.trans (congrArg some (by kernel_rfl))⟩
  f11 := ⟨Tryz.f195.name, by decide, Tryz.func195.trans (congrArg some (by kernel_rfl))⟩
  t0 := Tryz.underlying0
  a0 := Tryz.isAgg0
  z0 := Tryz.sizeOf0
  v0 := Tryz.zeroValue0
  t24 := Tryz.underlying68
  a24 := Tryz.isAgg68
  z24 := Tryz.sizeOf68
  v24 := Tryz.zeroValue68
  t26 := Tryz.underlying2
  a26 := Tryz.isAgg2
  z26 := Tryz.sizeOf2
  v26 := Tryz.zeroValue2
  t28 := Tryz.underlying121
  a28 := Tryz.isAgg121
  z28 := Tryz.sizeOf121
  v28 := Tryz.zeroValue121
  i26 := by kernel_rfl }
def Tryz.sortA_ren : Go.Shelf.Ren := ⟨fun | 5 => 118 | 8 => 197 | 7 => 196 | 19 => 268 | 20 => 269 | 10 => 259 | 11 => 260 | 12 => 261 | 13 => 262 | 14 => 263 | 15 => 264 | 16 => 265 | 17 => 266 | 18 => 267 | 30 => 330 | 31 => 331 | 32 => 332 | 33 => 333 | 34 => 334 | 35 => 252 | 40 => 365 | n => n, fun | 23 => 68 | 25 => 2 | 3 => 3 | 32 => 114 | 22 => 68 | 0 => 0 | 44 => 350 | 46 => 58 | 4 => 4 | 36 => 343 | 35 => 342 | 41 => 295 | 5 => 5 | 9 => 9 | 53 => 398 | 57 => 402 | 63 => 431 | 64 => 432 | n => n, fun | n => n⟩
theorem Tryz.sortA : Go.Proofs.SlLaysM.n5 Tryz.prog Tryz.sortA_ren := {
  mixed := by kernel_rfl
  f5 := ⟨Tryz.f118.name, by decide, Tryz.func118.trans (congrArg some (by kernel_rfl))⟩
  f7 := ⟨Tryz.f196.name, by decide, Tryz.func196.trans (congrArg some (by kernel_rfl))⟩
  f8 := Tryz.func197.trans (congrArg some (by kernel_rfl))
  f10 := ⟨Tryz.f259.name, by decide, Tryz.func259.trans (congrArg some (by kernel_rfl))⟩
  f11 := ⟨Tryz.f260.name, by decide, Tryz.func260.trans (congrArg some (by kernel_rfl))⟩
  f12 := ⟨Tryz.f261.name, by decide, Tryz.func261.trans (congrArg some (by kernel_rfl))⟩
  f13 := ⟨Tryz.f262.name, by decide, Tryz.func262.trans (congrArg some (by kernel_rfl))⟩
  f14 := ⟨Tryz.f263.name, by decide, Tryz.func263.trans (congrArg some (by kernel_rfl))⟩
  f15 := ⟨Tryz.f264.name, by decide, Tryz.func264.trans (congrArg some (by kernel_rfl))⟩
  f16 := ⟨Tryz.f265.name, by decide, Tryz.func265.trans (congrArg some (by kernel_rfl))⟩
  f17 := ⟨Tryz.f266.name, by decide, Tryz.func266.trans (congrArg some (by kernel_rfl))⟩
  f18 := ⟨Tryz.f267.name, by decide, Tryz.func267.trans (congrArg some (by kernel_rfl))⟩
  f19 := Tryz.func268.trans (congrArg some (by kernel_rfl))
  f20 := Tryz.func269.trans (congrArg some (by kernel_rfl))
  f30 := ⟨Tryz.f330.name, by decide, Tryz.func330.trans (congrArg some (by kernel_rfl))⟩
  f31 := Tryz.func331.trans (congrArg some (by kernel_rfl))
  f32 := Tryz.func332.trans (congrArg some (by kernel_rfl))
  f33 := ⟨Tryz.f333.name, by decide, Tryz.func333.trans (congrArg some (by kernel_rfl))⟩
  f34 := ⟨Tryz.f334.name, by decide, Tryz.func334.trans (congrArg some (by kernel_rfl))⟩
  f35 := ⟨Tryz.f252.name, by decide, Tryz.func252.trans (congrArg some (by kernel_rfl))⟩
  f40 := ⟨Tryz.f365.name, by decide, Tryz.func365.trans (congrArg some (by kernel_rfl))⟩
  t0 := Tryz.underlying0
  a0 := Tryz.isAgg0
  z0 := Tryz.sizeOf0
  v0 := Tryz.zeroValue0
  t3 := Tryz.underlying3
  a3 := Tryz.isAgg3
  z3 := Tryz.sizeOf3
  v3 := Tryz.zeroValue3
  t4 := Tryz.underlying4
  a4 := Tryz.isAgg4
  z4 := Tryz.sizeOf4
  v4 := Tryz.zeroValue4
  t5 := Tryz.underlying5
  a5 := Tryz.isAgg5
  z5 := Tryz.sizeOf5
  v5 := Tryz.zeroValue5
  t9 := Tryz.underlying9
  a9 := Tryz.isAgg9
  z9 := Tryz.sizeOf9
  v9 := Tryz.zeroValue9
  t22 := Tryz.underlying68
  a22 := Tryz.isAgg68
  z22 := Tryz.sizeOf68
  v22 := Tryz.zeroValue68
  t23 := Tryz.underlying68
  a23 := Tryz.isAgg68
  z23 := Tryz.sizeOf68
  v23 := Tryz.zeroValue68
  t25 := Tryz.underlying2
  a25 := Tryz.isAgg2
  z25 := Tryz.sizeOf2
  v25 := Tryz.zeroValue2
  t32 := Tryz.underlying114
  a32 := Tryz.isAgg114
  z32 := Tryz.sizeOf114
  v32 := Tryz.zeroValue114
  t35 := Tryz.underlying342
  a35 := Tryz.isAgg342
  z35 := Tryz.sizeOf342
  v35 := Tryz.zeroValue342
  t36 := Tryz.underlying343
  a36 := Tryz.isAgg343
  z36 := Tryz.sizeOf343
  v36 := Tryz.zeroValue343
  t41 := Tryz.underlying295
  a41 := Tryz.isAgg295
  z41 := Tryz.sizeOf295
  v41 := Tryz.zeroValue295
  t44 := Tryz.underlying350
  a44 := Tryz.isAgg350
  z44 := Tryz.sizeOf350
  v44 := Tryz.zeroValue350
  t46 := Tryz.underlying58
  a46 := Tryz.isAgg58
  z46 := Tryz.sizeOf58
  v46 := Tryz.zeroValue58
  t53 := Tryz.underlying398
  a53 := Tryz.isAgg398
  z53 := Tryz.sizeOf398
  v53 := Tryz.zeroValue398
  t57 := Tryz.underlying402
  a57 := Tryz.isAgg402
  z57 := Tryz.sizeOf402
  v57 := Tryz.zeroValue402
  t63 := Tryz.underlying431
  a63 := Tryz.isAgg431
  z63 := Tryz.sizeOf431
  v63 := Tryz.zeroValue431
  t64 := Tryz.underlying432
  a64 := Tryz.isAgg432
  z64 := Tryz.sizeOf432
  v64 := Tryz.zeroValue432 }
end Go.Proofs
namespace Go.Proofs.YtnlobbllkcckfaaGreat
open Go.RowKit Go.Maps Go.Sort Go.Shelf
theorem sortsA (m : Nat) : AnyZI.SortsIn Tryz.prog Tryz.sortedA_ren Fence.wide m :=
  ⟨fun blk off cap ss W hH hblk hsz => callsIn_wide.2 (AnyM.slices_Sort_int Tryz.sortA blk off cap ss W hH hblk hsz),
   fun p cap W => callsIn_wide.2 (AnyM.slices_Sort_int_none Tryz.sortA p cap W)⟩
set_option maxHeartbeats 1000000 in
theorem keysSorted119 : Go.Det.KeysSorted Tryz.prog 65 119 2 := by
  constructor
  · intro bx b nn D0 w hbx hc hown hmax hbytes
    refine (callsIn_wide (n := 5)).1 ?_
    have hseq : SeqGives Fence.wide 2 Tryz.prog 119 #[.pointer (some ⟨bx, 0, none⟩)] encZ (fun ss => ss.Perm (intKeys D0)) (Maps.size D0) w :=
      AnyZI.keys_gives (ρ := Tryz.keys119_ren) { Tryz.keys119 with } Fence.wide _ trivial rfl (by omega) bx b nn D0 w hbx hc hown
    exact AnyZI.sorted_in Tryz.sortedA Fence.wide 5 trivial trivial trivial trivial rfl (by omega) (sortsA _) (enters_of Tryz.func118 (by kernel_rfl) rfl) 119 #[.pointer (some ⟨bx, 0, none⟩)] trivial (enters_of Tryz.func119 (by kernel_rfl) rfl) _ _ hmax hbytes w hseq
  · intro bx w hbx hc
    refine (callsIn_wide (n := 5)).1 ?_
    have hseq : SeqGives Fence.wide 2 Tryz.prog 119 #[.pointer (some ⟨bx, 0, none⟩)] encZ (fun ss : List Int => ss = []) 0 w :=
      AnyZI.keys_gives_nil (ρ := Tryz.keys119_ren) { Tryz.keys119 with } Fence.wide _ trivial rfl bx w hbx hc
    refine (AnyZI.sorted_in Tryz.sortedA Fence.wide 5 trivial trivial trivial trivial rfl (by omega) (sortsA _) (enters_of Tryz.func118 (by kernel_rfl) rfl) 119 #[.pointer (some ⟨bx, 0, none⟩)] trivial (enters_of Tryz.func119 (by kernel_rfl) rfl) _ 0 (Nat.zero_le _) (by omega) w hseq).mono ?_
    rintro e w' ⟨v, ss, rfl, rfl, hrow, hnil, hb⟩
    obtain rfl : v = .slice none 0 0 := hnil.2 rfl
    exact ⟨rfl, hb⟩
noncomputable def sortedAll (args : List Go.Det.AV) (st : Go.Det.St) : Option (Go.Det.AV × Go.Det.St) := Option.rec (none) (fun p => some p) (Go.Det.sortedT 119 2 args st)
theorem enterS (X : Array Value) (w : World) : (callFunc 65 X).run Tryz.prog w = .ok (.enter 65 X) w := Go.Det.enter_of Tryz.func65 (by kernel_rfl) (by kernel_rfl) X w
theorem sortedAll_ok {args : List Go.Det.AV} {st st' : Go.Det.St} {v : Go.Det.AV} (h : sortedAll args st = some (v, st')) : Go.Det.CallS Tryz.prog 65 args st v st' := by
  unfold sortedAll at h
  cases h119 : Go.Det.sortedT 119 2 args st with
  | some p => rw [h119] at h; injection h with h; subst h; exact Go.Det.sortedT_ok keysSorted119 (by kernel_rfl) enterS h119
  | none =>
  rw [h119] at h
  cases h
noncomputable def tab : Go.Det.Tab := fun f => Bool.rec none (some sortedAll) (Nat.beq f 65)
theorem tab_ok : Go.Det.TabOk Tryz.prog tab := by
  intro f F hF args st v st' h
  cases hb : Nat.beq f 65 with
  | false => simp only [tab, hb] at hF; cases hF
  | true =>
    obtain rfl : f = 65 := Nat.eq_of_beq_eq_true hb
    simp only [tab, hb] at hF
    injection hF with hF; subst hF
    exact sortedAll_ok h
end Go.Proofs.YtnlobbllkcckfaaGreat
