/-
  Contracts of the library's functions at this translation, laid by the kit's tool in plain words; of its output what is used. No condition beyond those that each states.
-/
import Derived.Shelf.SlLaysG2
import Derived.Ground.SlsgProg
import Derived.Test.YtfhogenjpepfnaaGreatDoorProg
namespace Go.Proofs
open Go.Shelf
def Tryz.laysBS_ren : Go.Shelf.Ren := ⟨fun | 14 => 83 | n => n, fun | 22 => 76 | 24 => 30 | 29 => 30 | 32 => 91 | 3 => 3 | 4 => 4 | 35 => 81 | 0 => 0 | n => n, fun | n => n⟩
theorem Tryz.laysBS : Go.Proofs.SlLaysG2.n14 Tryz.prog Tryz.laysBS_ren := {
  mixed := by kernel_rfl
  f14 := ⟨Tryz.f83.name, by decide, Tryz.func83.trans (congrArg some (by kernel_rfl))⟩
  t0 := Tryz.underlying0
  a0 := Tryz.isAgg0
  z0 := Tryz.sizeOf0
  v0 := Tryz.zeroValue0
  t3 := Tryz.underlying3
  a3 := Tryz.isAgg3
  z3 := Tryz.sizeOf3
  v3 := Tryz.zeroValue3
  t4 := Tryz.underlying4
  a4 := Tryz.isAgg4
  z4 := Tryz.sizeOf4
  v4 := Tryz.zeroValue4
  t22 := Tryz.underlying76
  a22 := Tryz.isAgg76
  z22 := Tryz.sizeOf76
  v22 := Tryz.zeroValue76
  a24 := Tryz.isAgg30
  z24 := Tryz.sizeOf30
  a29 := Tryz.isAgg30
  z29 := Tryz.sizeOf30
  t32 := Tryz.underlying91
  a32 := Tryz.isAgg91
  z32 := Tryz.sizeOf91
  v32 := Tryz.zeroValue91
  t35 := Tryz.underlying81
  a35 := Tryz.isAgg81
  z35 := Tryz.sizeOf81
  v35 := Tryz.zeroValue81 }
end Go.Proofs
