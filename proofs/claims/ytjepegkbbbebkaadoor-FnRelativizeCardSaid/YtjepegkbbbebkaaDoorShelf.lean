/-
  Contracts of the library's functions at this translation, laid by the kit's tool in plain words; of its output what is used. No condition beyond those that each states.
-/
import Derived.Shelf.Strings.SlTrimAscii
import Derived.Ground.NamesProg
import Derived.Test.YtjepegkbbbebkaaDoorProg
namespace Go.Proofs
open Go.Shelf
def Tryd.lays160_ren : Go.Shelf.Ren := ⟨fun | 160 => 107 | 232 => 154 | 231 => 153 | 227 => 155 | 234 => 157 | 233 => 156 | 236 => 159 | 235 => 158 | 228 => 187 | 271 => 190 | 151 => 189 | 197 => 188 | 120 => 202 | 152 => 201 | 260 => 200 | 137 => 162 | 119 => 206 | 224 => 207 | 225 => 208 | 217 => 192 | 266 => 204 | n => n, fun | 9 => 9 | 4 => 4 | 3 => 3 | 5 => 5 | 117 => 173 | 116 => 172 | 0 => 0 | 124 => 176 | 21 => 21 | 105 => 195 | 46 => 84 | 119 => 207 | 139 => 210 | 138 => 209 | n => n, fun | 3 => 0 | 4 => 1 | n => n⟩
theorem Tryd.lays160 : Go.Proofs.Lays.n160 Tryd.prog Tryd.lays160_ren := {
  mixed := by kernel_rfl
  f119 := Tryd.func206.trans (congrArg some (by kernel_rfl))
  f120 := Tryd.func202.trans (congrArg some (by kernel_rfl))
  f137 := Tryd.func162.trans (congrArg some (by kernel_rfl))
  f151 := Tryd.func189.trans (congrArg some (by kernel_rfl))
  f152 := Tryd.func201.trans (congrArg some (by kernel_rfl))
  f160 := Tryd.func107.trans (congrArg some (by kernel_rfl))
  f197 := Tryd.func188.trans (congrArg some (by kernel_rfl))
  f217 := Tryd.func192.trans (congrArg some (by kernel_rfl))
  f224 := Tryd.func207.trans (congrArg some (by kernel_rfl))
  f225 := Tryd.func208.trans (congrArg some (by kernel_rfl))
  f227 := Tryd.func155.trans (congrArg some (by kernel_rfl))
  f228 := Tryd.func187.trans (congrArg some (by kernel_rfl))
  f231 := Tryd.func153.trans (congrArg some (by kernel_rfl))
  f232 := Tryd.func154.trans (congrArg some (by kernel_rfl))
  f233 := Tryd.func156.trans (congrArg some (by kernel_rfl))
  f234 := Tryd.func157.trans (congrArg some (by kernel_rfl))
  f235 := Tryd.func158.trans (congrArg some (by kernel_rfl))
  f236 := Tryd.func159.trans (congrArg some (by kernel_rfl))
  f260 := Tryd.func200.trans (congrArg some (by kernel_rfl))
  f266 := Tryd.func204.trans (congrArg some (by kernel_rfl))
  f271 := Tryd.func190.trans (congrArg some (by kernel_rfl))
  t0 := Tryd.underlying0
  a0 := Tryd.isAgg0
  z0 := Tryd.sizeOf0
  v0 := Tryd.zeroValue0
  t3 := Tryd.underlying3
  a3 := Tryd.isAgg3
  z3 := Tryd.sizeOf3
  v3 := Tryd.zeroValue3
  t4 := Tryd.underlying4
  a4 := Tryd.isAgg4
  z4 := Tryd.sizeOf4
  v4 := Tryd.zeroValue4
  t5 := Tryd.underlying5
  a5 := Tryd.isAgg5
  z5 := Tryd.sizeOf5
  v5 := Tryd.zeroValue5
  t9 := Tryd.underlying9
  a9 := Tryd.isAgg9
  z9 := Tryd.sizeOf9
  v9 := Tryd.zeroValue9
  t21 := Tryd.underlying21
  a21 := Tryd.isAgg21
  z21 := Tryd.sizeOf21
  v21 := Tryd.zeroValue21
  t46 := Tryd.underlying84
  a46 := Tryd.isAgg84
  z46 := Tryd.sizeOf84
  v46 := Tryd.zeroValue84
  t105 := Tryd.underlying195
  a105 := Tryd.isAgg195
  z105 := Tryd.sizeOf195
  v105 := Tryd.zeroValue195
  t116 := Tryd.underlying172
  a116 := Tryd.isAgg172
  z116 := Tryd.sizeOf172
  t117 := Tryd.underlying173
  a117 := Tryd.isAgg173
  z117 := Tryd.sizeOf173
  v117 := Tryd.zeroValue173
  t119 := Tryd.underlying207
  a119 := Tryd.isAgg207
  z119 := Tryd.sizeOf207
  t124 := Tryd.underlying176
  a124 := Tryd.isAgg176
  z124 := Tryd.sizeOf176
  v124 := Tryd.zeroValue176
  t138 := Tryd.underlying209
  a138 := Tryd.isAgg209
  z138 := Tryd.sizeOf209
  v138 := Tryd.zeroValue209
  t139 := Tryd.underlying210
  a139 := Tryd.isAgg210
  z139 := Tryd.sizeOf210
  v139 := Tryd.zeroValue210
  g3 := by kernel_rfl
  g4 := by kernel_rfl }
end Go.Proofs
