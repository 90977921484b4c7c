/- The contracts of the sorted keys of maps, at this program: the library's, and the machine's table of them. -/
import Derived.Shelf.SlIterI.Nil
import Derived.Shelf.SlIter.Nil
import Derived.Shelf.SlIterI.Sorted
import Derived.Shelf.SlIter.Sorted
import Derived.Shelf.SortM.Plain
import Derived.Shelf.SortM.SortNone
import Derived.Ground.GgzProg
import Derived.Ground.SlgmProg
import Derived.Test.YtenpjnfbpkidoaaGreatDoorProg
import Derived.Test.YtenpjnfbpkidoaaGreatDoorDvKeysS
set_option linter.unusedVariables false
namespace Go.Proofs
open Go.Shelf
def Tryz.keys247_ren : Go.Shelf.Ren := ⟨fun | 7 => 154 | 10 => 247 | n => n, fun | 23 => 177 | 26 => 2 | 3 => 34 | 28 => 253 | 0 => 0 | 27 => 252 | 33 => 207 | 4 => 4 | n => n, fun | n => n⟩
theorem Tryz.keys247 : Go.Proofs.SlLaysZI.n7 Tryz.prog Tryz.keys247_ren := {
  mixed := by kernel_rfl
  f7 := ⟨Tryz.f154.name, by decide, Tryz.func154.trans (congrArg some (by kernel_rfl))⟩
  f10 := ⟨Tryz.f247.name, by decide, Tryz.func247.trans (congrArg some (by kernel_rfl))⟩
  t0 := Tryz.underlying0
  a0 := Tryz.isAgg0
  z0 := Tryz.sizeOf0
  v0 := Tryz.zeroValue0
  t4 := Tryz.underlying4
  a4 := Tryz.isAgg4
  z4 := Tryz.sizeOf4
  v4 := Tryz.zeroValue4
  t23 := Tryz.underlying177
  a23 := Tryz.isAgg177
  z23 := Tryz.sizeOf177
  v23 := Tryz.zeroValue177
  t26 := Tryz.underlying2
  a26 := Tryz.isAgg2
  z26 := Tryz.sizeOf2
  v26 := Tryz.zeroValue2
  t27 := Tryz.underlying252
  a27 := Tryz.isAgg252
  z27 := Tryz.sizeOf252
  v27 := Tryz.zeroValue252
  t28 := Tryz.underlying253
  a28 := Tryz.isAgg253
  z28 := Tryz.sizeOf253
  v28 := Tryz.zeroValue253
  t33 := Tryz.underlying207
  a33 := Tryz.isAgg207
  z33 := Tryz.sizeOf207
  v33 := Tryz.zeroValue207 }
def Tryz.sortedI_ren : Go.Shelf.Ren := ⟨fun | 6 => 153 | 8 => 245 | 9 => 246 | 11 => 340 | 13 => 219 | 12 => 341 | 23 => 327 | 24 => 328 | 14 => 439 | 15 => 440 | 16 => 441 | 17 => 442 | 18 => 443 | 19 => 444 | 20 => 445 | 21 => 446 | 22 => 447 | 25 => 487 | 26 => 421 | 27 => 422 | 28 => 488 | 29 => 489 | 30 => 314 | 31 => 528 | n => n, fun | 26 => 2 | 28 => 253 | 24 => 250 | 0 => 0 | 3 => 3 | 37 => 232 | 48 => 447 | 50 => 162 | 4 => 4 | 40 => 440 | 39 => 439 | 45 => 270 | 5 => 5 | 9 => 9 | 51 => 527 | 55 => 531 | 57 => 579 | 58 => 580 | 33 => 207 | n => n, fun | n => n⟩
theorem Tryz.sortedI : Go.Proofs.SlLaysZI.n6 Tryz.prog Tryz.sortedI_ren := {
  mixed := by kernel_rfl
  f6 := ⟨Tryz.f153.name, by decide, Tryz.func153.trans (congrArg some (by kernel_rfl))⟩
  f8 := ⟨Tryz.f245.name, by decide, Tryz.func245.trans (congrArg some (by kernel_rfl))⟩
  f11 := ⟨Tryz.f340.name, by decide, Tryz.func340.trans (congrArg some (by kernel_rfl))⟩
  t0 := Tryz.underlying0
  a0 := Tryz.isAgg0
  z0 := Tryz.sizeOf0
  v0 := Tryz.zeroValue0
  t24 := Tryz.underlying250
  a24 := Tryz.isAgg250
  z24 := Tryz.sizeOf250
  v24 := Tryz.zeroValue250
  t26 := Tryz.underlying2
  a26 := Tryz.isAgg2
  z26 := Tryz.sizeOf2
  v26 := Tryz.zeroValue2
  t28 := Tryz.underlying253
  a28 := Tryz.isAgg253
  z28 := Tryz.sizeOf253
  v28 := Tryz.zeroValue253
  i26 := by kernel_rfl }
def Tryz.sortI_ren : Go.Shelf.Ren := ⟨fun | 5 => 246 | 8 => 219 | 7 => 341 | 19 => 327 | 20 => 328 | 10 => 439 | 11 => 440 | 12 => 441 | 13 => 442 | 14 => 443 | 15 => 444 | 16 => 445 | 17 => 446 | 18 => 447 | 30 => 487 | 31 => 421 | 32 => 422 | 33 => 488 | 34 => 489 | 35 => 314 | 40 => 528 | n => n, fun | 23 => 250 | 25 => 2 | 3 => 3 | 32 => 232 | 22 => 250 | 0 => 0 | 44 => 447 | 46 => 162 | 4 => 4 | 36 => 440 | 35 => 439 | 41 => 270 | 5 => 5 | 9 => 9 | 53 => 527 | 57 => 531 | 63 => 579 | 64 => 580 | n => n, fun | n => n⟩
theorem Tryz.sortI : Go.Proofs.SlLaysM.n5 Tryz.prog Tryz.sortI_ren := {
  mixed := by kernel_rfl
  f5 := ⟨Tryz.f246.name, by decide, Tryz.func246.trans (congrArg some (by kernel_rfl))⟩
  f7 := ⟨Tryz.f341.name, by decide, Tryz.func341.trans (congrArg some (by kernel_rfl))⟩
  f8 := Tryz.func219.trans (congrArg some (by kernel_rfl))
  f10 := ⟨Tryz.f439.name, by decide, Tryz.func439.trans (congrArg some (by kernel_rfl))⟩
  f11 := ⟨Tryz.f440.name, by decide, Tryz.func440.trans (congrArg some (by kernel_rfl))⟩
  f12 := ⟨Tryz.f441.name, by decide, Tryz.func441.trans (congrArg some (by kernel_rfl))⟩
  f13 := ⟨Tryz.f442.name, by decide, Tryz.func442.trans (congrArg some (by kernel_rfl))⟩
  f14 := ⟨Tryz.f443.name, by decide, Tryz.func443.trans (congrArg some (by kernel_rfl))⟩
  f15 := ⟨Tryz.f444.name, by decide, Tryz.func444.trans (congrArg some (by kernel_rfl))⟩
  f16 := ⟨Tryz.f445.name, by decide, Tryz.func445.trans (congrArg some (by kernel_rfl))⟩
  f17 := ⟨Tryz.f446.name, by decide, Tryz.func446.trans (congrArg some (by kernel_rfl))⟩
  f18 := ⟨Tryz.f447.name, by decide, Tryz.func447.trans (congrArg some (by kernel_rfl))⟩
  f19 := Tryz.func327.trans (congrArg some (by kernel_rfl))
  f20 := Tryz.func328.trans (congrArg some (by kernel_rfl))
  f30 := ⟨Tryz.f487.name, by decide, Tryz.func487.trans (congrArg some (by kernel_rfl))⟩
  f31 := Tryz.func421.trans (congrArg some (by kernel_rfl))
  f32 := Tryz.func422.trans (congrArg some (by kernel_rfl))
  f33 := ⟨Tryz.f488.name, by decide, Tryz.func488.trans (congrArg some (by kernel_rfl))⟩
  f34 := ⟨Tryz.f489.name, by decide, Tryz.func489.trans (congrArg some (by kernel_rfl))⟩
  f35 := ⟨Tryz.f314.name, by decide, Tryz.func314.trans (congrArg some (by kernel_rfl))⟩
  f40 := ⟨Tryz.f528.name, by decide, Tryz.func528.trans (congrArg some (by kernel_rfl))⟩
  t0 := Tryz.underlying0
  a0 := Tryz.isAgg0
  z0 := Tryz.sizeOf0
  v0 := Tryz.zeroValue0
  t3 := Tryz.underlying3
  a3 := Tryz.isAgg3
  z3 := Tryz.sizeOf3
  v3 := Tryz.zeroValue3
  t4 := Tryz.underlying4
  a4 := Tryz.isAgg4
  z4 := Tryz.sizeOf4
  v4 := Tryz.zeroValue4
  t5 := Tryz.underlying5
  a5 := Tryz.isAgg5
  z5 := Tryz.sizeOf5
  v5 := Tryz.zeroValue5
  t9 := Tryz.underlying9
  a9 := Tryz.isAgg9
  z9 := Tryz.sizeOf9
  v9 := Tryz.zeroValue9
  t22 := Tryz.underlying250
  a22 := Tryz.isAgg250
  z22 := Tryz.sizeOf250
  v22 := Tryz.zeroValue250
  t23 := Tryz.underlying250
  a23 := Tryz.isAgg250
  z23 := Tryz.sizeOf250
  v23 := Tryz.zeroValue250
  t25 := Tryz.underlying2
  a25 := Tryz.isAgg2
  z25 := Tryz.sizeOf2
  v25 := Tryz.zeroValue2
  t32 := Tryz.underlying232
  a32 := Tryz.isAgg232
  z32 := Tryz.sizeOf232
  v32 := Tryz.zeroValue232
  t35 := Tryz.underlying439
  a35 := Tryz.isAgg439
  z35 := Tryz.sizeOf439
  v35 := Tryz.zeroValue439
  t36 := Tryz.underlying440
  a36 := Tryz.isAgg440
  z36 := Tryz.sizeOf440
  v36 := Tryz.zeroValue440
  t41 := Tryz.underlying270
  a41 := Tryz.isAgg270
  z41 := Tryz.sizeOf270
  v41 := Tryz.zeroValue270
  t44 := Tryz.underlying447
  a44 := Tryz.isAgg447
  z44 := Tryz.sizeOf447
  v44 := Tryz.zeroValue447
  t46 := Tryz.underlying162
  a46 := Tryz.isAgg162
  z46 := Tryz.sizeOf162
  v46 := Tryz.zeroValue162
  t53 := Tryz.underlying527
  a53 := Tryz.isAgg527
  z53 := Tryz.sizeOf527
  v53 := Tryz.zeroValue527
  t57 := Tryz.underlying531
  a57 := Tryz.isAgg531
  z57 := Tryz.sizeOf531
  v57 := Tryz.zeroValue531
  t63 := Tryz.underlying579
  a63 := Tryz.isAgg579
  z63 := Tryz.sizeOf579
  v63 := Tryz.zeroValue579
  t64 := Tryz.underlying580
  a64 := Tryz.isAgg580
  z64 := Tryz.sizeOf580
  v64 := Tryz.zeroValue580 }
def Tryz.keys138_ren : Go.Shelf.Ren := ⟨fun | 7 => 77 | 10 => 138 | n => n, fun | 23 => 97 | 26 => 9 | 3 => 150 | 28 => 155 | 0 => 0 | 27 => 154 | 33 => 167 | 4 => 4 | n => n, fun | n => n⟩
theorem Tryz.keys138 : Go.Proofs.SlLaysZ.n7 Tryz.prog Tryz.keys138_ren := {
  mixed := by kernel_rfl
  f7 := ⟨Tryz.f77.name, by decide, Tryz.func77.trans (congrArg some (by kernel_rfl))⟩
  f10 := ⟨Tryz.f138.name, by decide, Tryz.func138.trans (congrArg some (by kernel_rfl))⟩
  t0 := Tryz.underlying0
  a0 := Tryz.isAgg0
  z0 := Tryz.sizeOf0
  v0 := Tryz.zeroValue0
  t4 := Tryz.underlying4
  a4 := Tryz.isAgg4
  z4 := Tryz.sizeOf4
  v4 := Tryz.zeroValue4
  t23 := Tryz.underlying97
  a23 := Tryz.isAgg97
  z23 := Tryz.sizeOf97
  v23 := Tryz.zeroValue97
  t26 := Tryz.underlying9
  a26 := Tryz.isAgg9
  z26 := Tryz.sizeOf9
  v26 := Tryz.zeroValue9
  t27 := Tryz.underlying154
  a27 := Tryz.isAgg154
  z27 := Tryz.sizeOf154
  v27 := Tryz.zeroValue154
  t28 := Tryz.underlying155
  a28 := Tryz.isAgg155
  z28 := Tryz.sizeOf155
  v28 := Tryz.zeroValue155
  t33 := Tryz.underlying167
  a33 := Tryz.isAgg167
  z33 := Tryz.sizeOf167
  v33 := Tryz.zeroValue167 }
def Tryz.sortedS_ren : Go.Shelf.Ren := ⟨fun | 6 => 76 | 8 => 136 | 9 => 137 | 11 => 217 | 13 => 219 | 12 => 218 | 23 => 327 | 24 => 328 | 14 => 318 | 15 => 319 | 16 => 320 | 17 => 321 | 18 => 322 | 19 => 323 | 20 => 324 | 21 => 325 | 22 => 326 | 25 => 420 | 26 => 421 | 27 => 422 | 28 => 423 | 29 => 424 | 30 => 425 | 31 => 483 | n => n, fun | 26 => 9 | 28 => 155 | 24 => 88 | 0 => 0 | 3 => 3 | 37 => 232 | 48 => 447 | 50 => 162 | 4 => 4 | 40 => 440 | 39 => 439 | 45 => 270 | 5 => 5 | 9 => 9 | 51 => 527 | 55 => 531 | 57 => 579 | 58 => 580 | 33 => 167 | n => n, fun | n => n⟩
theorem Tryz.sortedS : Go.Proofs.SlLaysZ.n6 Tryz.prog Tryz.sortedS_ren := {
  mixed := by kernel_rfl
  f6 := ⟨Tryz.f76.name, by decide, Tryz.func76.trans (congrArg some (by kernel_rfl))⟩
  f8 := ⟨Tryz.f136.name, by decide, Tryz.func136.trans (congrArg some (by kernel_rfl))⟩
  f11 := ⟨Tryz.f217.name, by decide, Tryz.func217.trans (congrArg some (by kernel_rfl))⟩
  t0 := Tryz.underlying0
  a0 := Tryz.isAgg0
  z0 := Tryz.sizeOf0
  v0 := Tryz.zeroValue0
  t24 := Tryz.underlying88
  a24 := Tryz.isAgg88
  z24 := Tryz.sizeOf88
  v24 := Tryz.zeroValue88
  t26 := Tryz.underlying9
  a26 := Tryz.isAgg9
  z26 := Tryz.sizeOf9
  v26 := Tryz.zeroValue9
  t28 := Tryz.underlying155
  a28 := Tryz.isAgg155
  z28 := Tryz.sizeOf155
  v28 := Tryz.zeroValue155
  i26 := by kernel_rfl }
def Tryz.sortS_ren : Go.Shelf.Ren := ⟨fun | 6 => 137 | 8 => 219 | 9 => 218 | 19 => 327 | 20 => 328 | 21 => 318 | 22 => 319 | 23 => 320 | 24 => 321 | 25 => 322 | 26 => 323 | 27 => 324 | 28 => 325 | 29 => 326 | 36 => 420 | 31 => 421 | 32 => 422 | 37 => 423 | 38 => 424 | 39 => 425 | 41 => 483 | n => n, fun | 27 => 88 | 29 => 9 | 3 => 3 | 32 => 232 | 26 => 88 | 0 => 0 | 44 => 447 | 46 => 162 | 4 => 4 | 36 => 440 | 35 => 439 | 41 => 270 | 5 => 5 | 9 => 9 | 53 => 527 | 57 => 531 | 63 => 579 | 64 => 580 | n => n, fun | n => n⟩
theorem Tryz.sortS : Go.Proofs.SlLaysM.n6 Tryz.prog Tryz.sortS_ren := {
  mixed := by kernel_rfl
  f6 := ⟨Tryz.f137.name, by decide, Tryz.func137.trans (congrArg some (by kernel_rfl))⟩
  f8 := Tryz.func219.trans (congrArg some (by kernel_rfl))
  f9 := ⟨Tryz.f218.name, by decide, Tryz.func218.trans (congrArg some (by kernel_rfl))⟩
  f19 := Tryz.func327.trans (congrArg some (by kernel_rfl))
  f20 := Tryz.func328.trans (congrArg some (by kernel_rfl))
  f21 := ⟨Tryz.f318.name, by decide, Tryz.func318.trans (congrArg some (by kernel_rfl))⟩
  f22 := ⟨Tryz.f319.name, by decide, Tryz.func319.trans (congrArg some (by kernel_rfl))⟩
  f23 := ⟨Tryz.f320.name, by decide, Tryz.func320.trans (congrArg some (by kernel_rfl))⟩
  f24 := ⟨Tryz.f321.name, by decide, Tryz.func321.trans (congrArg some (by kernel_rfl))⟩
  f25 := ⟨Tryz.f322.name, by decide, Tryz.func322.trans (congrArg some (by kernel_rfl))⟩
  f26 := ⟨Tryz.f323.name, by decide, Tryz.func323.trans (congrArg some (by kernel_rfl))⟩
  f27 := ⟨Tryz.f324.name, by decide, Tryz.func324.trans (congrArg some (by kernel_rfl))⟩
  f28 := ⟨Tryz.f325.name, by decide, Tryz.func325.trans (congrArg some (by kernel_rfl))⟩
  f29 := ⟨Tryz.f326.name, by decide, Tryz.func326.trans (congrArg some (by kernel_rfl))⟩
  f31 := Tryz.func421.trans (congrArg some (by kernel_rfl))
  f32 := Tryz.func422.trans (congrArg some (by kernel_rfl))
  f36 := ⟨Tryz.f420.name, by decide, Tryz.func420.trans (congrArg some (by kernel_rfl))⟩
  f37 := ⟨Tryz.f423.name, by decide, Tryz.func423.trans (congrArg some (by kernel_rfl))⟩
  f38 := ⟨Tryz.f424.name, by decide, Tryz.func424.trans (congrArg some (by kernel_rfl))⟩
  f39 := ⟨Tryz.f425.name, by decide, Tryz.func425.trans (congrArg some (by kernel_rfl))⟩
  f41 := ⟨Tryz.f483.name, by decide, Tryz.func483.trans (congrArg some (by kernel_rfl))⟩
  t0 := Tryz.underlying0
  a0 := Tryz.isAgg0
  z0 := Tryz.sizeOf0
  v0 := Tryz.zeroValue0
  t3 := Tryz.underlying3
  a3 := Tryz.isAgg3
  z3 := Tryz.sizeOf3
  v3 := Tryz.zeroValue3
  t4 := Tryz.underlying4
  a4 := Tryz.isAgg4
  z4 := Tryz.sizeOf4
  v4 := Tryz.zeroValue4
  t5 := Tryz.underlying5
  a5 := Tryz.isAgg5
  z5 := Tryz.sizeOf5
  v5 := Tryz.zeroValue5
  t9 := Tryz.underlying9
  a9 := Tryz.isAgg9
  z9 := Tryz.sizeOf9
  v9 := Tryz.zeroValue9
  t26 := Tryz.underlying88
  a26 := Tryz.isAgg88
  z26 := Tryz.sizeOf88
  v26 := Tryz.zeroValue88
  t27 := Tryz.underlying88
  a27 := Tryz.isAgg88
  z27 := Tryz.sizeOf88
  v27 := Tryz.zeroValue88
  t29 := Tryz.underlying9
  a29 := Tryz.isAgg9
  z29 := Tryz.sizeOf9
  v29 := Tryz.zeroValue9
  t32 := Tryz.underlying232
  a32 := Tryz.isAgg232
  z32 := Tryz.sizeOf232
  v32 := Tryz.zeroValue232
  t35 := Tryz.underlying439
  a35 := Tryz.isAgg439
  z35 := Tryz.sizeOf439
  v35 := Tryz.zeroValue439
  t36 := Tryz.underlying440
  a36 := Tryz.isAgg440
  z36 := Tryz.sizeOf440
  v36 := Tryz.zeroValue440
  t41 := Tryz.underlying270
  a41 := Tryz.isAgg270
  z41 := Tryz.sizeOf270
  v41 := Tryz.zeroValue270
  t44 := Tryz.underlying447
  a44 := Tryz.isAgg447
  z44 := Tryz.sizeOf447
  v44 := Tryz.zeroValue447
  t46 := Tryz.underlying162
  a46 := Tryz.isAgg162
  z46 := Tryz.sizeOf162
  v46 := Tryz.zeroValue162
  t53 := Tryz.underlying527
  a53 := Tryz.isAgg527
  z53 := Tryz.sizeOf527
  v53 := Tryz.zeroValue527
  t57 := Tryz.underlying531
  a57 := Tryz.isAgg531
  z57 := Tryz.sizeOf531
  v57 := Tryz.zeroValue531
  t63 := Tryz.underlying579
  a63 := Tryz.isAgg579
  z63 := Tryz.sizeOf579
  v63 := Tryz.zeroValue579
  t64 := Tryz.underlying580
  a64 := Tryz.isAgg580
  z64 := Tryz.sizeOf580
  v64 := Tryz.zeroValue580 }
end Go.Proofs
namespace Go.Proofs.YtenpjnfbpkidoaaGreatDoor
open Go.RowKit Go.Maps Go.Sort Go.Shelf
theorem sortsI (m : Nat) : AnyZI.SortsIn Tryz.prog Tryz.sortedI_ren Fence.wide m :=
  ⟨fun blk off cap ss W hH hblk hsz => callsIn_wide.2 (AnyM.slices_Sort_int Tryz.sortI blk off cap ss W hH hblk hsz),
   fun p cap W => callsIn_wide.2 (AnyM.slices_Sort_int_none Tryz.sortI p cap W)⟩
set_option maxHeartbeats 1000000 in
theorem keysSorted247 : Go.Det.KeysSorted Tryz.prog 153 247 2 := by
  constructor
  · intro bx b nn D0 w hbx hc hown hmax hbytes
    refine (callsIn_wide (n := 5)).1 ?_
    have hseq : SeqGives Fence.wide 2 Tryz.prog 247 #[.pointer (some ⟨bx, 0, none⟩)] encZ (fun ss => ss.Perm (intKeys D0)) (Maps.size D0) w :=
      AnyZI.keys_gives (ρ := Tryz.keys247_ren) { Tryz.keys247 with } Fence.wide _ trivial rfl (by omega) bx b nn D0 w hbx hc hown
    exact AnyZI.sorted_in Tryz.sortedI Fence.wide 5 trivial trivial trivial trivial rfl (by omega) (sortsI _) (enters_of Tryz.func246 (by kernel_rfl) rfl) 247 #[.pointer (some ⟨bx, 0, none⟩)] trivial (enters_of Tryz.func247 (by kernel_rfl) rfl) _ _ hmax hbytes w hseq
  · intro bx w hbx hc
    refine (callsIn_wide (n := 5)).1 ?_
    have hseq : SeqGives Fence.wide 2 Tryz.prog 247 #[.pointer (some ⟨bx, 0, none⟩)] encZ (fun ss : List (Int) => ss = []) 0 w :=
      AnyZI.keys_gives_nil (ρ := Tryz.keys247_ren) { Tryz.keys247 with } Fence.wide _ trivial rfl bx w hbx hc
    refine (AnyZI.sorted_in Tryz.sortedI Fence.wide 5 trivial trivial trivial trivial rfl (by omega) (sortsI _) (enters_of Tryz.func246 (by kernel_rfl) rfl) 247 #[.pointer (some ⟨bx, 0, none⟩)] trivial (enters_of Tryz.func247 (by kernel_rfl) rfl) _ 0 (Nat.zero_le _) (by omega) w hseq).mono ?_
    rintro e w' ⟨v, ss, rfl, rfl, hrow, hnil, hb⟩
    obtain rfl : v = .slice none 0 0 := hnil.2 rfl
    exact ⟨rfl, hb⟩
noncomputable def sortedAllI (args : List Go.Det.AV) (st : Go.Det.St) : Option (Go.Det.AV × Go.Det.St) := Option.rec (none) (fun p => some p) (Go.Det.sortedT 247 2 args st)
theorem enterSI (X : Array Value) (w : World) : (callFunc 153 X).run Tryz.prog w = .ok (.enter 153 X) w := Go.Det.enter_of Tryz.func153 (by kernel_rfl) (by kernel_rfl) X w
theorem sortedAll_okI {args : List Go.Det.AV} {st st' : Go.Det.St} {v : Go.Det.AV} (h : sortedAllI args st = some (v, st')) : Go.Det.CallS Tryz.prog 153 args st v st' := by
  unfold sortedAllI at h
  cases h247 : Go.Det.sortedT 247 2 args st with
  | some p => rw [h247] at h; injection h with h; subst h; exact Go.Det.sortedT_ok keysSorted247 (by kernel_rfl) enterSI h247
  | none =>
  rw [h247] at h
  cases h
theorem sortsS (m : Nat) : AnyZ.SortsIn Tryz.prog Tryz.sortedS_ren Fence.wide m :=
  ⟨fun blk off cap ss W hH hblk hsz => callsIn_wide.2 (AnyM.slices_Sort_string Tryz.sortS blk off cap ss W hH hblk hsz),
   fun p cap W => callsIn_wide.2 (AnyM.slices_Sort_string_none Tryz.sortS p cap W)⟩
set_option maxHeartbeats 1000000 in
theorem keysSorted138 : Go.Det.KeysSortedS Tryz.prog 76 138 9 := by
  constructor
  · intro bx b nn D0 w hbx hc hown hmax hbytes
    refine (callsIn_wide (n := 5)).1 ?_
    have hseq : SeqGives Fence.wide 2 Tryz.prog 138 #[.pointer (some ⟨bx, 0, none⟩)] encStr (fun ss => ss.Perm (strKeys D0)) (Maps.size D0) w :=
      AnyZ.keys_gives (ρ := Tryz.keys138_ren) { Tryz.keys138 with } Fence.wide _ trivial rfl (by omega) bx b nn D0 w hbx hc hown
    exact AnyZ.sorted_in Tryz.sortedS Fence.wide 5 trivial trivial trivial trivial rfl (by omega) (sortsS _) (enters_of Tryz.func137 (by kernel_rfl) rfl) 138 #[.pointer (some ⟨bx, 0, none⟩)] trivial (enters_of Tryz.func138 (by kernel_rfl) rfl) _ _ hmax hbytes w hseq
  · intro bx w hbx hc
    refine (callsIn_wide (n := 5)).1 ?_
    have hseq : SeqGives Fence.wide 2 Tryz.prog 138 #[.pointer (some ⟨bx, 0, none⟩)] encStr (fun ss : List (List UInt8) => ss = []) 0 w :=
      AnyZ.keys_gives_nil (ρ := Tryz.keys138_ren) { Tryz.keys138 with } Fence.wide _ trivial rfl bx w hbx hc
    refine (AnyZ.sorted_in Tryz.sortedS Fence.wide 5 trivial trivial trivial trivial rfl (by omega) (sortsS _) (enters_of Tryz.func137 (by kernel_rfl) rfl) 138 #[.pointer (some ⟨bx, 0, none⟩)] trivial (enters_of Tryz.func138 (by kernel_rfl) rfl) _ 0 (Nat.zero_le _) (by omega) w hseq).mono ?_
    rintro e w' ⟨v, ss, rfl, rfl, hrow, hnil, hb⟩
    obtain rfl : v = .slice none 0 0 := hnil.2 rfl
    exact ⟨rfl, hb⟩
noncomputable def sortedAllS (args : List Go.Det.AV) (st : Go.Det.St) : Option (Go.Det.AV × Go.Det.St) := Option.rec (none) (fun p => some p) (Go.Det.sortedTS 138 9 args st)
theorem enterSS (X : Array Value) (w : World) : (callFunc 76 X).run Tryz.prog w = .ok (.enter 76 X) w := Go.Det.enter_of Tryz.func76 (by kernel_rfl) (by kernel_rfl) X w
theorem sortedAll_okS {args : List Go.Det.AV} {st st' : Go.Det.St} {v : Go.Det.AV} (h : sortedAllS args st = some (v, st')) : Go.Det.CallS Tryz.prog 76 args st v st' := by
  unfold sortedAllS at h
  cases h138 : Go.Det.sortedTS 138 9 args st with
  | some p => rw [h138] at h; injection h with h; subst h; exact Go.Det.sortedTS_ok keysSorted138 (by kernel_rfl) enterSS h138
  | none =>
  rw [h138] at h
  cases h
noncomputable def tab : Go.Det.Tab := fun f => Bool.rec (Bool.rec (none) (some sortedAllS) (Nat.beq f 76)) (some sortedAllI) (Nat.beq f 153)
theorem tab_ok : Go.Det.TabOk Tryz.prog tab := by
  intro f F hF args st v st' h
  cases hbI : Nat.beq f 153 with
  | true =>
    obtain rfl : f = 153 := Nat.eq_of_beq_eq_true hbI
    simp only [tab, hbI] at hF
    injection hF with hF; subst hF
    exact sortedAll_okI h
  | false =>
  cases hbS : Nat.beq f 76 with
  | true =>
    obtain rfl : f = 76 := Nat.eq_of_beq_eq_true hbS
    simp only [tab, hbI, hbS] at hF
    injection hF with hF; subst hF
    exact sortedAll_okS h
  | false =>
  simp only [tab, hbI, hbS] at hF; cases hF
end Go.Proofs.YtenpjnfbpkidoaaGreatDoor
