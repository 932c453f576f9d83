/-
  Contracts of the library's functions at this translation, laid by the kit's tool in plain words; of its output what is used. No condition beyond those that each states.
-/
import Derived.Shelf.Strings.SlTrimAscii
import Derived.Ground.NamesProg
import Derived.Test.YtadgiknnejjplaaDoorProg
namespace Go.Proofs
open Go.Shelf
def Tryd.lays160_ren : Go.Shelf.Ren := ⟨fun | 160 => 151 | 232 => 189 | 231 => 188 | 227 => 190 | 234 => 192 | 233 => 191 | 236 => 194 | 235 => 193 | 228 => 211 | 271 => 214 | 151 => 213 | 197 => 212 | 120 => 225 | 152 => 224 | 260 => 223 | 137 => 195 | 119 => 232 | 224 => 230 | 225 => 229 | 217 => 215 | 266 => 226 | n => n, fun | 9 => 9 | 4 => 4 | 3 => 3 | 5 => 5 | 117 => 187 | 116 => 186 | 0 => 0 | 124 => 190 | 21 => 21 | 105 => 209 | 46 => 53 | 119 => 219 | 139 => 222 | 138 => 221 | n => n, fun | 3 => 2 | 4 => 3 | n => n⟩
theorem Tryd.lays160 : Go.Proofs.Lays.n160 Tryd.prog Tryd.lays160_ren := {
  mixed := by kernel_rfl
  f119 := Tryd.func232.trans (congrArg some (by kernel_rfl))
  f120 := Tryd.func225.trans (congrArg some (by kernel_rfl))
  f137 := Tryd.func195.trans (congrArg some (by kernel_rfl))
  f151 := Tryd.func213.trans (congrArg some (by kernel_rfl))
  f152 := Tryd.func224.trans (congrArg some (by kernel_rfl))
  f160 := Tryd.func151.trans (congrArg some (by kernel_rfl))
  f197 := Tryd.func212.trans (congrArg some (by kernel_rfl))
  f217 := Tryd.func215.trans (congrArg some (by kernel_rfl))
  f224 := Tryd.func230.trans (congrArg some (by kernel_rfl))
  f225 := Tryd.func229.trans (congrArg some (by kernel_rfl))
  f227 := Tryd.func190.trans (congrArg some (by kernel_rfl))
  f228 := Tryd.func211.trans (congrArg some (by kernel_rfl))
  f231 := Tryd.func188.trans (congrArg some (by kernel_rfl))
  f232 := Tryd.func189.trans (congrArg some (by kernel_rfl))
  f233 := Tryd.func191.trans (congrArg some (by kernel_rfl))
  f234 := Tryd.func192.trans (congrArg some (by kernel_rfl))
  f235 := Tryd.func193.trans (congrArg some (by kernel_rfl))
  f236 := Tryd.func194.trans (congrArg some (by kernel_rfl))
  f260 := Tryd.func223.trans (congrArg some (by kernel_rfl))
  f266 := Tryd.func226.trans (congrArg some (by kernel_rfl))
  f271 := Tryd.func214.trans (congrArg some (by kernel_rfl))
  t0 := Tryd.underlying0
  a0 := Tryd.isAgg0
  z0 := Tryd.sizeOf0
  v0 := Tryd.zeroValue0
  t3 := Tryd.underlying3
  a3 := Tryd.isAgg3
  z3 := Tryd.sizeOf3
  v3 := Tryd.zeroValue3
  t4 := Tryd.underlying4
  a4 := Tryd.isAgg4
  z4 := Tryd.sizeOf4
  v4 := Tryd.zeroValue4
  t5 := Tryd.underlying5
  a5 := Tryd.isAgg5
  z5 := Tryd.sizeOf5
  v5 := Tryd.zeroValue5
  t9 := Tryd.underlying9
  a9 := Tryd.isAgg9
  z9 := Tryd.sizeOf9
  v9 := Tryd.zeroValue9
  t21 := Tryd.underlying21
  a21 := Tryd.isAgg21
  z21 := Tryd.sizeOf21
  v21 := Tryd.zeroValue21
  t46 := Tryd.underlying53
  a46 := Tryd.isAgg53
  z46 := Tryd.sizeOf53
  v46 := Tryd.zeroValue53
  t105 := Tryd.underlying209
  a105 := Tryd.isAgg209
  z105 := Tryd.sizeOf209
  v105 := Tryd.zeroValue209
  t116 := Tryd.underlying186
  a116 := Tryd.isAgg186
  z116 := Tryd.sizeOf186
  t117 := Tryd.underlying187
  a117 := Tryd.isAgg187
  z117 := Tryd.sizeOf187
  v117 := Tryd.zeroValue187
  t119 := Tryd.underlying219
  a119 := Tryd.isAgg219
  z119 := Tryd.sizeOf219
  t124 := Tryd.underlying190
  a124 := Tryd.isAgg190
  z124 := Tryd.sizeOf190
  v124 := Tryd.zeroValue190
  t138 := Tryd.underlying221
  a138 := Tryd.isAgg221
  z138 := Tryd.sizeOf221
  v138 := Tryd.zeroValue221
  t139 := Tryd.underlying222
  a139 := Tryd.isAgg222
  z139 := Tryd.sizeOf222
  v139 := Tryd.zeroValue222
  g3 := by kernel_rfl
  g4 := by kernel_rfl }
end Go.Proofs
