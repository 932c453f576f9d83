/-
  Contracts of the library's functions at this translation, laid by the kit's tool in plain words; of its output what is used. No condition beyond those that each states.
-/
import Derived.Shelf.Strings.SlTrimAscii
import Derived.Ground.NamesProg
import Derived.Test.YtijdieacjplojaaDoorProg
namespace Go.Proofs
open Go.Shelf
def Tryd.lays160_ren : Go.Shelf.Ren := ⟨fun | 160 => 100 | 232 => 128 | 231 => 127 | 227 => 129 | 234 => 131 | 233 => 130 | 236 => 133 | 235 => 132 | 228 => 148 | 271 => 151 | 151 => 150 | 197 => 149 | 120 => 163 | 152 => 162 | 260 => 161 | 137 => 172 | 119 => 173 | 224 => 174 | 225 => 175 | 217 => 179 | 266 => 180 | n => n, fun | 9 => 9 | 4 => 4 | 3 => 3 | 5 => 5 | 117 => 131 | 116 => 130 | 0 => 0 | 124 => 134 | 21 => 21 | 105 => 148 | 46 => 29 | 119 => 164 | 139 => 167 | 138 => 166 | n => n, fun | 3 => 2 | 4 => 3 | n => n⟩
theorem Tryd.lays160 : Go.Proofs.Lays.n160 Tryd.prog Tryd.lays160_ren := {
  mixed := by kernel_rfl
  f119 := Tryd.func173.trans (congrArg some (by kernel_rfl))
  f120 := Tryd.func163.trans (congrArg some (by kernel_rfl))
  f137 := Tryd.func172.trans (congrArg some (by kernel_rfl))
  f151 := Tryd.func150.trans (congrArg some (by kernel_rfl))
  f152 := Tryd.func162.trans (congrArg some (by kernel_rfl))
  f160 := Tryd.func100.trans (congrArg some (by kernel_rfl))
  f197 := Tryd.func149.trans (congrArg some (by kernel_rfl))
  f217 := Tryd.func179.trans (congrArg some (by kernel_rfl))
  f224 := Tryd.func174.trans (congrArg some (by kernel_rfl))
  f225 := Tryd.func175.trans (congrArg some (by kernel_rfl))
  f227 := Tryd.func129.trans (congrArg some (by kernel_rfl))
  f228 := Tryd.func148.trans (congrArg some (by kernel_rfl))
  f231 := Tryd.func127.trans (congrArg some (by kernel_rfl))
  f232 := Tryd.func128.trans (congrArg some (by kernel_rfl))
  f233 := Tryd.func130.trans (congrArg some (by kernel_rfl))
  f234 := Tryd.func131.trans (congrArg some (by kernel_rfl))
  f235 := Tryd.func132.trans (congrArg some (by kernel_rfl))
  f236 := Tryd.func133.trans (congrArg some (by kernel_rfl))
  f260 := Tryd.func161.trans (congrArg some (by kernel_rfl))
  f266 := Tryd.func180.trans (congrArg some (by kernel_rfl))
  f271 := Tryd.func151.trans (congrArg some (by kernel_rfl))
  t0 := Tryd.underlying0
  a0 := Tryd.isAgg0
  z0 := Tryd.sizeOf0
  v0 := Tryd.zeroValue0
  t3 := Tryd.underlying3
  a3 := Tryd.isAgg3
  z3 := Tryd.sizeOf3
  v3 := Tryd.zeroValue3
  t4 := Tryd.underlying4
  a4 := Tryd.isAgg4
  z4 := Tryd.sizeOf4
  v4 := Tryd.zeroValue4
  t5 := Tryd.underlying5
  a5 := Tryd.isAgg5
  z5 := Tryd.sizeOf5
  v5 := Tryd.zeroValue5
  t9 := Tryd.underlying9
  a9 := Tryd.isAgg9
  z9 := Tryd.sizeOf9
  v9 := Tryd.zeroValue9
  t21 := Tryd.underlying21
  a21 := Tryd.isAgg21
  z21 := Tryd.sizeOf21
  v21 := Tryd.zeroValue21
  t46 := Tryd.underlying29
  a46 := Tryd.isAgg29
  z46 := Tryd.sizeOf29
  v46 := Tryd.zeroValue29
  t105 := Tryd.underlying148
  a105 := Tryd.isAgg148
  z105 := Tryd.sizeOf148
  v105 := Tryd.zeroValue148
  t116 := Tryd.underlying130
  a116 := Tryd.isAgg130
  z116 := Tryd.sizeOf130
  t117 := Tryd.underlying131
  a117 := Tryd.isAgg131
  z117 := Tryd.sizeOf131
  v117 := Tryd.zeroValue131
  t119 := Tryd.underlying164
  a119 := Tryd.isAgg164
  z119 := Tryd.sizeOf164
  t124 := Tryd.underlying134
  a124 := Tryd.isAgg134
  z124 := Tryd.sizeOf134
  v124 := Tryd.zeroValue134
  t138 := Tryd.underlying166
  a138 := Tryd.isAgg166
  z138 := Tryd.sizeOf166
  v138 := Tryd.zeroValue166
  t139 := Tryd.underlying167
  a139 := Tryd.isAgg167
  z139 := Tryd.sizeOf167
  v139 := Tryd.zeroValue167
  g3 := by kernel_rfl
  g4 := by kernel_rfl }
end Go.Proofs
