/-
  Contracts of the library's functions at this translation, laid by the kit's tool in plain words; of its output what is used. No condition beyond those that each states.
-/
import Derived.Shelf.Strings.SlTrimAscii
import Derived.Ground.NamesProg
import Derived.Test.YtmabpmkkleelaaaDoorProg
namespace Go.Proofs
open Go.Shelf
def Tryd.lays160_ren : Go.Shelf.Ren := ⟨fun | 160 => 109 | 232 => 175 | 231 => 174 | 227 => 176 | 234 => 178 | 233 => 177 | 236 => 180 | 235 => 179 | 228 => 203 | 271 => 206 | 151 => 205 | 197 => 204 | 120 => 222 | 152 => 221 | 260 => 220 | 137 => 189 | 119 => 231 | 224 => 232 | 225 => 233 | 217 => 209 | 266 => 224 | n => n, fun | 9 => 9 | 4 => 4 | 3 => 3 | 5 => 5 | 117 => 171 | 116 => 170 | 0 => 0 | 124 => 174 | 21 => 21 | 105 => 196 | 46 => 110 | 119 => 216 | 139 => 219 | 138 => 218 | n => n, fun | 3 => 2 | 4 => 3 | n => n⟩
theorem Tryd.lays160 : Go.Proofs.Lays.n160 Tryd.prog Tryd.lays160_ren := {
  mixed := by kernel_rfl
  f119 := Tryd.func231.trans (congrArg some (by kernel_rfl))
  f120 := Tryd.func222.trans (congrArg some (by kernel_rfl))
  f137 := Tryd.func189.trans (congrArg some (by kernel_rfl))
  f151 := Tryd.func205.trans (congrArg some (by kernel_rfl))
  f152 := Tryd.func221.trans (congrArg some (by kernel_rfl))
  f160 := Tryd.func109.trans (congrArg some (by kernel_rfl))
  f197 := Tryd.func204.trans (congrArg some (by kernel_rfl))
  f217 := Tryd.func209.trans (congrArg some (by kernel_rfl))
  f224 := Tryd.func232.trans (congrArg some (by kernel_rfl))
  f225 := Tryd.func233.trans (congrArg some (by kernel_rfl))
  f227 := Tryd.func176.trans (congrArg some (by kernel_rfl))
  f228 := Tryd.func203.trans (congrArg some (by kernel_rfl))
  f231 := Tryd.func174.trans (congrArg some (by kernel_rfl))
  f232 := Tryd.func175.trans (congrArg some (by kernel_rfl))
  f233 := Tryd.func177.trans (congrArg some (by kernel_rfl))
  f234 := Tryd.func178.trans (congrArg some (by kernel_rfl))
  f235 := Tryd.func179.trans (congrArg some (by kernel_rfl))
  f236 := Tryd.func180.trans (congrArg some (by kernel_rfl))
  f260 := Tryd.func220.trans (congrArg some (by kernel_rfl))
  f266 := Tryd.func224.trans (congrArg some (by kernel_rfl))
  f271 := Tryd.func206.trans (congrArg some (by kernel_rfl))
  t0 := Tryd.underlying0
  a0 := Tryd.isAgg0
  z0 := Tryd.sizeOf0
  v0 := Tryd.zeroValue0
  t3 := Tryd.underlying3
  a3 := Tryd.isAgg3
  z3 := Tryd.sizeOf3
  v3 := Tryd.zeroValue3
  t4 := Tryd.underlying4
  a4 := Tryd.isAgg4
  z4 := Tryd.sizeOf4
  v4 := Tryd.zeroValue4
  t5 := Tryd.underlying5
  a5 := Tryd.isAgg5
  z5 := Tryd.sizeOf5
  v5 := Tryd.zeroValue5
  t9 := Tryd.underlying9
  a9 := Tryd.isAgg9
  z9 := Tryd.sizeOf9
  v9 := Tryd.zeroValue9
  t21 := Tryd.underlying21
  a21 := Tryd.isAgg21
  z21 := Tryd.sizeOf21
  v21 := Tryd.zeroValue21
  t46 := Tryd.underlying110
  a46 := Tryd.isAgg110
  z46 := Tryd.sizeOf110
  v46 := Tryd.zeroValue110
  t105 := Tryd.underlying196
  a105 := Tryd.isAgg196
  z105 := Tryd.sizeOf196
  v105 := Tryd.zeroValue196
  t116 := Tryd.underlying170
  a116 := Tryd.isAgg170
  z116 := Tryd.sizeOf170
  t117 := Tryd.underlying171
  a117 := Tryd.isAgg171
  z117 := Tryd.sizeOf171
  v117 := Tryd.zeroValue171
  t119 := Tryd.underlying216
  a119 := Tryd.isAgg216
  z119 := Tryd.sizeOf216
  t124 := Tryd.underlying174
  a124 := Tryd.isAgg174
  z124 := Tryd.sizeOf174
  v124 := Tryd.zeroValue174
  t138 := Tryd.underlying218
  a138 := Tryd.isAgg218
  z138 := Tryd.sizeOf218
  v138 := Tryd.zeroValue218
  t139 := Tryd.underlying219
  a139 := Tryd.isAgg219
  z139 := Tryd.sizeOf219
  v139 := Tryd.zeroValue219
  g3 := by kernel_rfl
  g4 := by kernel_rfl }
end Go.Proofs
