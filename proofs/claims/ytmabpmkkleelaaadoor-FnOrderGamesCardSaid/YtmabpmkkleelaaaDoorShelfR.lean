/-
  Contracts of the library's functions at this translation, laid by the kit's tool in plain words; of its output what is used. No condition beyond those that each states.
-/
import Derived.Shelf.Strings.Builder1
import Derived.Shelf.Strings.Builder2
import Derived.Shelf.Strings.BuilderF
import Derived.Shelf.Strings.Prefix
import Derived.Shelf.Bits.Mul64
import Derived.Shelf.Strings.Repeat
import Derived.Ground.NamesProg
import Derived.Test.YtmabpmkkleelaaaDoorProg
namespace Go.Proofs
open Go.Shelf Go.RowKit
def Tryd.lays105_ren : Go.Shelf.Ren := ⟨fun | 105 => 94 | 212 => 162 | 99 => 163 | 165 => 164 | 166 => 165 | 170 => 166 | 169 => 167 | 263 => 194 | 264 => 195 | 206 => 196 | 240 => 197 | 241 => 198 | 276 => 211 | 277 => 212 | n => n, fun | 9 => 9 | 3 => 3 | 4 => 4 | 20 => 20 | 0 => 0 | 46 => 110 | 109 => 155 | 5 => 5 | 72 => 160 | 76 => 164 | 51 => 187 | 146 => 188 | 53 => 190 | 148 => 191 | 70 => 158 | 37 => 22 | 75 => 163 | 127 => 193 | 164 => 200 | 80 => 166 | n => n, fun | n => n⟩
theorem Tryd.lays105 : Go.Proofs.Lays.n105 Tryd.prog Tryd.lays105_ren := {
  mixed := by kernel_rfl
  f99 := Tryd.func163.trans (congrArg some (by kernel_rfl))
  f105 := Tryd.func94.trans (congrArg some (by kernel_rfl))
  f165 := Tryd.func164.trans (congrArg some (by kernel_rfl))
  f166 := Tryd.func165.trans (congrArg some (by kernel_rfl))
  f169 := Tryd.func167.trans (congrArg some (by kernel_rfl))
  f170 := Tryd.func166.trans (congrArg some (by kernel_rfl))
  f206 := Tryd.func196.trans (congrArg some (by kernel_rfl))
  f212 := Tryd.func162.trans (congrArg some (by kernel_rfl))
  f240 := Tryd.func197.trans (congrArg some (by kernel_rfl))
  f241 := Tryd.func198.trans (congrArg some (by kernel_rfl))
  f263 := Tryd.func194.trans (congrArg some (by kernel_rfl))
  f264 := Tryd.func195.trans (congrArg some (by kernel_rfl))
  f276 := Tryd.func211.trans (congrArg some (by kernel_rfl))
  f277 := Tryd.func212.trans (congrArg some (by kernel_rfl))
  t0 := Tryd.underlying0
  a0 := Tryd.isAgg0
  z0 := Tryd.sizeOf0
  v0 := Tryd.zeroValue0
  t3 := Tryd.underlying3
  a3 := Tryd.isAgg3
  z3 := Tryd.sizeOf3
  v3 := Tryd.zeroValue3
  t4 := Tryd.underlying4
  a4 := Tryd.isAgg4
  z4 := Tryd.sizeOf4
  v4 := Tryd.zeroValue4
  t5 := Tryd.underlying5
  a5 := Tryd.isAgg5
  z5 := Tryd.sizeOf5
  v5 := Tryd.zeroValue5
  t9 := Tryd.underlying9
  a9 := Tryd.isAgg9
  z9 := Tryd.sizeOf9
  v9 := Tryd.zeroValue9
  t20 := Tryd.underlying20
  a20 := Tryd.isAgg20
  z20 := Tryd.sizeOf20
  v20 := Tryd.zeroValue20
  t37 := Tryd.underlying22
  a37 := Tryd.isAgg22
  z37 := Tryd.sizeOf22
  v37 := Tryd.zeroValue22
  t46 := Tryd.underlying110
  a46 := Tryd.isAgg110
  z46 := Tryd.sizeOf110
  v46 := Tryd.zeroValue110
  t51 := Tryd.underlying187
  a51 := Tryd.isAgg187
  z51 := Tryd.sizeOf187
  v51 := Tryd.zeroValue187
  t53 := Tryd.underlying190
  a53 := Tryd.isAgg190
  z53 := Tryd.sizeOf190
  v53 := Tryd.zeroValue190
  t70 := Tryd.underlying158
  a70 := Tryd.isAgg158
  z70 := Tryd.sizeOf158
  v70 := Tryd.zeroValue158
  t72 := Tryd.underlying160
  a72 := Tryd.isAgg160
  z72 := Tryd.sizeOf160
  v72 := Tryd.zeroValue160
  t75 := Tryd.underlying163
  a75 := Tryd.isAgg163
  z75 := Tryd.sizeOf163
  v75 := Tryd.zeroValue163
  t76 := Tryd.underlying164
  a76 := Tryd.isAgg164
  z76 := Tryd.sizeOf164
  v76 := Tryd.zeroValue164
  t109 := Tryd.underlying155
  a109 := Tryd.isAgg155
  z109 := Tryd.sizeOf155
  v109 := Tryd.zeroValue155
  t127 := Tryd.underlying193
  a127 := Tryd.isAgg193
  z127 := Tryd.sizeOf193
  v127 := Tryd.zeroValue193
  t146 := Tryd.underlying188
  a146 := Tryd.isAgg188
  z146 := Tryd.sizeOf188
  v146 := Tryd.zeroValue188
  t148 := Tryd.underlying191
  a148 := Tryd.isAgg191
  z148 := Tryd.sizeOf191
  v148 := Tryd.zeroValue191
  t164 := Tryd.underlying200
  a164 := Tryd.isAgg200
  z164 := Tryd.sizeOf200
  v164 := Tryd.zeroValue200 }
theorem Tryd.Builder_Extra_105 : Builder.Extra Tryd.prog Tryd.lays105_ren := {
  sizeBuilder := by kernel_rfl
  liesBuilder := by kernel_rfl
  t5 := Tryd.underlying5
  a5 := Tryd.isAgg5
  z5 := Tryd.sizeOf5
  v5 := Tryd.zeroValue5
  infoByte := by kernel_rfl
  cellsByte := by kernel_rfl
  sizeByte := by kernel_rfl
  neB5 := by decide }
theorem Tryd.strings_Repeat (s : ByteArray) (c : Nat) (w : World) (hc : c ≤ 9223372036854775807) (hlen : s.size * c ≤ 140737488355328) :
    Calls Tryd.prog 94 #[.string s, .int .i64 c] w fun e w' => e = .returned (.string ⟨(Lib.repeatL s.data.toList c).toArray⟩) ∧ Below w.heap.size w w' := Any.strings_Repeat Tryd.lays105 Tryd.Builder_Extra_105 s c w hc hlen
end Go.Proofs
