/-
  Contracts of the library's functions at this translation, laid by the kit's tool in plain words; of its output what is used. No condition beyond those that each states.
-/
import Derived.Shelf.SlLaysG2
import Derived.Ground.SlsgProg
import Derived.Test.YtdonjgjkhndfcaaGreatDoorProg
namespace Go.Proofs
open Go.Shelf
def Tryz.laysBS_ren : Go.Shelf.Ren := ⟨fun | 14 => 89 | n => n, fun | 22 => 74 | 24 => 29 | 29 => 29 | 32 => 110 | 3 => 3 | 4 => 4 | 35 => 145 | 0 => 0 | n => n, fun | n => n⟩
theorem Tryz.laysBS : Go.Proofs.SlLaysG2.n14 Tryz.prog Tryz.laysBS_ren := {
  mixed := by kernel_rfl
  f14 := ⟨Tryz.f89.name, by decide, Tryz.func89.trans (congrArg some (by kernel_rfl))⟩
  t0 := Tryz.underlying0
  a0 := Tryz.isAgg0
  z0 := Tryz.sizeOf0
  v0 := Tryz.zeroValue0
  t3 := Tryz.underlying3
  a3 := Tryz.isAgg3
  z3 := Tryz.sizeOf3
  v3 := Tryz.zeroValue3
  t4 := Tryz.underlying4
  a4 := Tryz.isAgg4
  z4 := Tryz.sizeOf4
  v4 := Tryz.zeroValue4
  t22 := Tryz.underlying74
  a22 := Tryz.isAgg74
  z22 := Tryz.sizeOf74
  v22 := Tryz.zeroValue74
  a24 := Tryz.isAgg29
  z24 := Tryz.sizeOf29
  a29 := Tryz.isAgg29
  z29 := Tryz.sizeOf29
  t32 := Tryz.underlying110
  a32 := Tryz.isAgg110
  z32 := Tryz.sizeOf110
  v32 := Tryz.zeroValue110
  t35 := Tryz.underlying145
  a35 := Tryz.isAgg145
  z35 := Tryz.sizeOf145
  v35 := Tryz.zeroValue145 }
end Go.Proofs
