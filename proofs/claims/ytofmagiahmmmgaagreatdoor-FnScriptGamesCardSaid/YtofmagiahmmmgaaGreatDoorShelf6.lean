/-
  Contracts of the library's functions at this translation, laid by the kit's tool in plain words; of its output what is used. No condition beyond those that each states.
-/
import Derived.Shelf.SlLaysG2
import Derived.Ground.SlsgProg
import Derived.Test.YtofmagiahmmmgaaGreatDoorProg
namespace Go.Proofs
open Go.Shelf
def Tryz.laysBS_ren : Go.Shelf.Ren := ⟨fun | 14 => 167 | n => n, fun | 22 => 131 | 24 => 33 | 29 => 33 | 32 => 186 | 3 => 3 | 4 => 4 | 35 => 137 | 0 => 0 | n => n, fun | n => n⟩
theorem Tryz.laysBS : Go.Proofs.SlLaysG2.n14 Tryz.prog Tryz.laysBS_ren := {
  mixed := by kernel_rfl
  f14 := ⟨Tryz.f167.name, by decide, Tryz.func167.trans (congrArg some (by kernel_rfl))⟩
  t0 := Tryz.underlying0
  a0 := Tryz.isAgg0
  z0 := Tryz.sizeOf0
  v0 := Tryz.zeroValue0
  t3 := Tryz.underlying3
  a3 := Tryz.isAgg3
  z3 := Tryz.sizeOf3
  v3 := Tryz.zeroValue3
  t4 := Tryz.underlying4
  a4 := Tryz.isAgg4
  z4 := Tryz.sizeOf4
  v4 := Tryz.zeroValue4
  t22 := Tryz.underlying131
  a22 := Tryz.isAgg131
  z22 := Tryz.sizeOf131
  v22 := Tryz.zeroValue131
  a24 := Tryz.isAgg33
  z24 := Tryz.sizeOf33
  a29 := Tryz.isAgg33
  z29 := Tryz.sizeOf33
  t32 := Tryz.underlying186
  a32 := Tryz.isAgg186
  z32 := Tryz.sizeOf186
  v32 := Tryz.zeroValue186
  t35 := Tryz.underlying137
  a35 := Tryz.isAgg137
  z35 := Tryz.sizeOf137
  v35 := Tryz.zeroValue137 }
end Go.Proofs
