/-
  Contracts of the library's functions at this translation, laid by the kit's tool in plain words; of its output what is used. No condition beyond those that each states.
-/
import Derived.Shelf.Strings.SlTrimAscii
import Derived.Ground.NamesProg
import Derived.Test.YtagnikcnakdehaaDoorProg
namespace Go.Proofs
open Go.Shelf
def Tryd.lays160_ren : Go.Shelf.Ren := ⟨fun | 160 => 144 | 232 => 190 | 231 => 189 | 227 => 191 | 234 => 193 | 233 => 192 | 236 => 195 | 235 => 194 | 228 => 219 | 271 => 222 | 151 => 221 | 197 => 220 | 120 => 237 | 152 => 236 | 260 => 235 | 137 => 240 | 119 => 241 | 224 => 242 | 225 => 243 | 217 => 245 | 266 => 247 | n => n, fun | 9 => 9 | 4 => 4 | 3 => 3 | 5 => 5 | 117 => 182 | 116 => 181 | 0 => 0 | 124 => 185 | 21 => 21 | 105 => 203 | 46 => 29 | 119 => 215 | 139 => 218 | 138 => 217 | n => n, fun | 3 => 1 | 4 => 2 | n => n⟩
theorem Tryd.lays160 : Go.Proofs.Lays.n160 Tryd.prog Tryd.lays160_ren := {
  mixed := by kernel_rfl
  f119 := Tryd.func241.trans (congrArg some (by kernel_rfl))
  f120 := Tryd.func237.trans (congrArg some (by kernel_rfl))
  f137 := Tryd.func240.trans (congrArg some (by kernel_rfl))
  f151 := Tryd.func221.trans (congrArg some (by kernel_rfl))
  f152 := Tryd.func236.trans (congrArg some (by kernel_rfl))
  f160 := Tryd.func144.trans (congrArg some (by kernel_rfl))
  f197 := Tryd.func220.trans (congrArg some (by kernel_rfl))
  f217 := Tryd.func245.trans (congrArg some (by kernel_rfl))
  f224 := Tryd.func242.trans (congrArg some (by kernel_rfl))
  f225 := Tryd.func243.trans (congrArg some (by kernel_rfl))
  f227 := Tryd.func191.trans (congrArg some (by kernel_rfl))
  f228 := Tryd.func219.trans (congrArg some (by kernel_rfl))
  f231 := Tryd.func189.trans (congrArg some (by kernel_rfl))
  f232 := Tryd.func190.trans (congrArg some (by kernel_rfl))
  f233 := Tryd.func192.trans (congrArg some (by kernel_rfl))
  f234 := Tryd.func193.trans (congrArg some (by kernel_rfl))
  f235 := Tryd.func194.trans (congrArg some (by kernel_rfl))
  f236 := Tryd.func195.trans (congrArg some (by kernel_rfl))
  f260 := Tryd.func235.trans (congrArg some (by kernel_rfl))
  f266 := Tryd.func247.trans (congrArg some (by kernel_rfl))
  f271 := Tryd.func222.trans (congrArg some (by kernel_rfl))
  t0 := Tryd.underlying0
  a0 := Tryd.isAgg0
  z0 := Tryd.sizeOf0
  v0 := Tryd.zeroValue0
  t3 := Tryd.underlying3
  a3 := Tryd.isAgg3
  z3 := Tryd.sizeOf3
  v3 := Tryd.zeroValue3
  t4 := Tryd.underlying4
  a4 := Tryd.isAgg4
  z4 := Tryd.sizeOf4
  v4 := Tryd.zeroValue4
  t5 := Tryd.underlying5
  a5 := Tryd.isAgg5
  z5 := Tryd.sizeOf5
  v5 := Tryd.zeroValue5
  t9 := Tryd.underlying9
  a9 := Tryd.isAgg9
  z9 := Tryd.sizeOf9
  v9 := Tryd.zeroValue9
  t21 := Tryd.underlying21
  a21 := Tryd.isAgg21
  z21 := Tryd.sizeOf21
  v21 := Tryd.zeroValue21
  t46 := Tryd.underlying29
  a46 := Tryd.isAgg29
  z46 := Tryd.sizeOf29
  v46 := Tryd.zeroValue29
  t105 := Tryd.underlying203
  a105 := Tryd.isAgg203
  z105 := Tryd.sizeOf203
  v105 := Tryd.zeroValue203
  t116 := Tryd.underlying181
  a116 := Tryd.isAgg181
  z116 := Tryd.sizeOf181
  t117 := Tryd.underlying182
  a117 := Tryd.isAgg182
  z117 := Tryd.sizeOf182
  v117 := Tryd.zeroValue182
  t119 := Tryd.underlying215
  a119 := Tryd.isAgg215
  z119 := Tryd.sizeOf215
  t124 := Tryd.underlying185
  a124 := Tryd.isAgg185
  z124 := Tryd.sizeOf185
  v124 := Tryd.zeroValue185
  t138 := Tryd.underlying217
  a138 := Tryd.isAgg217
  z138 := Tryd.sizeOf217
  v138 := Tryd.zeroValue217
  t139 := Tryd.underlying218
  a139 := Tryd.isAgg218
  z139 := Tryd.sizeOf218
  v139 := Tryd.zeroValue218
  g3 := by kernel_rfl
  g4 := by kernel_rfl }
end Go.Proofs
