/-
  Contracts of the library's functions at this translation, laid by the kit's tool in plain words; of its output what is used. No condition beyond those that each states.
-/
import Derived.Shelf.Strings.SlTrimAscii
import Derived.Ground.NamesProg
import Derived.Test.YtenjojakjdaamaaDoorProg
namespace Go.Proofs
open Go.Shelf
def Tryd.lays160_ren : Go.Shelf.Ren := ⟨fun | 160 => 121 | 232 => 177 | 231 => 176 | 227 => 178 | 234 => 180 | 233 => 179 | 236 => 182 | 235 => 181 | 228 => 205 | 271 => 208 | 151 => 207 | 197 => 206 | 120 => 224 | 152 => 223 | 260 => 222 | 137 => 187 | 119 => 233 | 224 => 234 | 225 => 235 | 217 => 211 | 266 => 226 | n => n, fun | 9 => 9 | 4 => 4 | 3 => 3 | 5 => 5 | 117 => 167 | 116 => 166 | 0 => 0 | 124 => 170 | 21 => 21 | 105 => 192 | 46 => 62 | 119 => 212 | 139 => 215 | 138 => 214 | n => n, fun | 3 => 2 | 4 => 3 | n => n⟩
theorem Tryd.lays160 : Go.Proofs.Lays.n160 Tryd.prog Tryd.lays160_ren := {
  mixed := by kernel_rfl
  f119 := Tryd.func233.trans (congrArg some (by kernel_rfl))
  f120 := Tryd.func224.trans (congrArg some (by kernel_rfl))
  f137 := Tryd.func187.trans (congrArg some (by kernel_rfl))
  f151 := Tryd.func207.trans (congrArg some (by kernel_rfl))
  f152 := Tryd.func223.trans (congrArg some (by kernel_rfl))
  f160 := Tryd.func121.trans (congrArg some (by kernel_rfl))
  f197 := Tryd.func206.trans (congrArg some (by kernel_rfl))
  f217 := Tryd.func211.trans (congrArg some (by kernel_rfl))
  f224 := Tryd.func234.trans (congrArg some (by kernel_rfl))
  f225 := Tryd.func235.trans (congrArg some (by kernel_rfl))
  f227 := Tryd.func178.trans (congrArg some (by kernel_rfl))
  f228 := Tryd.func205.trans (congrArg some (by kernel_rfl))
  f231 := Tryd.func176.trans (congrArg some (by kernel_rfl))
  f232 := Tryd.func177.trans (congrArg some (by kernel_rfl))
  f233 := Tryd.func179.trans (congrArg some (by kernel_rfl))
  f234 := Tryd.func180.trans (congrArg some (by kernel_rfl))
  f235 := Tryd.func181.trans (congrArg some (by kernel_rfl))
  f236 := Tryd.func182.trans (congrArg some (by kernel_rfl))
  f260 := Tryd.func222.trans (congrArg some (by kernel_rfl))
  f266 := Tryd.func226.trans (congrArg some (by kernel_rfl))
  f271 := Tryd.func208.trans (congrArg some (by kernel_rfl))
  t0 := Tryd.underlying0
  a0 := Tryd.isAgg0
  z0 := Tryd.sizeOf0
  v0 := Tryd.zeroValue0
  t3 := Tryd.underlying3
  a3 := Tryd.isAgg3
  z3 := Tryd.sizeOf3
  v3 := Tryd.zeroValue3
  t4 := Tryd.underlying4
  a4 := Tryd.isAgg4
  z4 := Tryd.sizeOf4
  v4 := Tryd.zeroValue4
  t5 := Tryd.underlying5
  a5 := Tryd.isAgg5
  z5 := Tryd.sizeOf5
  v5 := Tryd.zeroValue5
  t9 := Tryd.underlying9
  a9 := Tryd.isAgg9
  z9 := Tryd.sizeOf9
  v9 := Tryd.zeroValue9
  t21 := Tryd.underlying21
  a21 := Tryd.isAgg21
  z21 := Tryd.sizeOf21
  v21 := Tryd.zeroValue21
  t46 := Tryd.underlying62
  a46 := Tryd.isAgg62
  z46 := Tryd.sizeOf62
  v46 := Tryd.zeroValue62
  t105 := Tryd.underlying192
  a105 := Tryd.isAgg192
  z105 := Tryd.sizeOf192
  v105 := Tryd.zeroValue192
  t116 := Tryd.underlying166
  a116 := Tryd.isAgg166
  z116 := Tryd.sizeOf166
  t117 := Tryd.underlying167
  a117 := Tryd.isAgg167
  z117 := Tryd.sizeOf167
  v117 := Tryd.zeroValue167
  t119 := Tryd.underlying212
  a119 := Tryd.isAgg212
  z119 := Tryd.sizeOf212
  t124 := Tryd.underlying170
  a124 := Tryd.isAgg170
  z124 := Tryd.sizeOf170
  v124 := Tryd.zeroValue170
  t138 := Tryd.underlying214
  a138 := Tryd.isAgg214
  z138 := Tryd.sizeOf214
  v138 := Tryd.zeroValue214
  t139 := Tryd.underlying215
  a139 := Tryd.isAgg215
  z139 := Tryd.sizeOf215
  v139 := Tryd.zeroValue215
  g3 := by kernel_rfl
  g4 := by kernel_rfl }
end Go.Proofs
