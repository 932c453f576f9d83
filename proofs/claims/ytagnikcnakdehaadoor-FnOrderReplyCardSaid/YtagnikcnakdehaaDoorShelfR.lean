/-
  Contracts of the library's functions at this translation, laid by the kit's tool in plain words; of its output what is used. No condition beyond those that each states.
-/
import Derived.Shelf.Strings.Builder1
import Derived.Shelf.Strings.Builder2
import Derived.Shelf.Strings.BuilderF
import Derived.Shelf.Strings.Prefix
import Derived.Shelf.Bits.Mul64
import Derived.Shelf.Strings.Repeat
import Derived.Ground.NamesProg
import Derived.Test.YtagnikcnakdehaaDoorProg
namespace Go.Proofs
open Go.Shelf Go.RowKit
def Tryd.lays105_ren : Go.Shelf.Ren := ⟨fun | 105 => 88 | 212 => 152 | 99 => 153 | 165 => 154 | 166 => 155 | 170 => 156 | 169 => 157 | 263 => 198 | 264 => 199 | 206 => 200 | 240 => 201 | 241 => 202 | 276 => 224 | 277 => 225 | n => n, fun | 9 => 9 | 3 => 3 | 4 => 4 | 20 => 20 | 0 => 0 | 46 => 29 | 109 => 144 | 5 => 5 | 72 => 148 | 76 => 152 | 51 => 186 | 146 => 187 | 53 => 189 | 148 => 190 | 70 => 146 | 37 => 24 | 75 => 151 | 127 => 192 | 164 => 206 | 80 => 155 | n => n, fun | n => n⟩
theorem Tryd.lays105 : Go.Proofs.Lays.n105 Tryd.prog Tryd.lays105_ren := {
  mixed := by kernel_rfl
  f99 := Tryd.func153.trans (congrArg some (by kernel_rfl))
  f105 := Tryd.func88.trans (congrArg some (by kernel_rfl))
  f165 := Tryd.func154.trans (congrArg some (by kernel_rfl))
  f166 := Tryd.func155.trans (congrArg some (by kernel_rfl))
  f169 := Tryd.func157.trans (congrArg some (by kernel_rfl))
  f170 := Tryd.func156.trans (congrArg some (by kernel_rfl))
  f206 := Tryd.func200.trans (congrArg some (by kernel_rfl))
  f212 := Tryd.func152.trans (congrArg some (by kernel_rfl))
  f240 := Tryd.func201.trans (congrArg some (by kernel_rfl))
  f241 := Tryd.func202.trans (congrArg some (by kernel_rfl))
  f263 := Tryd.func198.trans (congrArg some (by kernel_rfl))
  f264 := Tryd.func199.trans (congrArg some (by kernel_rfl))
  f276 := Tryd.func224.trans (congrArg some (by kernel_rfl))
  f277 := Tryd.func225.trans (congrArg some (by kernel_rfl))
  t0 := Tryd.underlying0
  a0 := Tryd.isAgg0
  z0 := Tryd.sizeOf0
  v0 := Tryd.zeroValue0
  t3 := Tryd.underlying3
  a3 := Tryd.isAgg3
  z3 := Tryd.sizeOf3
  v3 := Tryd.zeroValue3
  t4 := Tryd.underlying4
  a4 := Tryd.isAgg4
  z4 := Tryd.sizeOf4
  v4 := Tryd.zeroValue4
  t5 := Tryd.underlying5
  a5 := Tryd.isAgg5
  z5 := Tryd.sizeOf5
  v5 := Tryd.zeroValue5
  t9 := Tryd.underlying9
  a9 := Tryd.isAgg9
  z9 := Tryd.sizeOf9
  v9 := Tryd.zeroValue9
  t20 := Tryd.underlying20
  a20 := Tryd.isAgg20
  z20 := Tryd.sizeOf20
  v20 := Tryd.zeroValue20
  t37 := Tryd.underlying24
  a37 := Tryd.isAgg24
  z37 := Tryd.sizeOf24
  v37 := Tryd.zeroValue24
  t46 := Tryd.underlying29
  a46 := Tryd.isAgg29
  z46 := Tryd.sizeOf29
  v46 := Tryd.zeroValue29
  t51 := Tryd.underlying186
  a51 := Tryd.isAgg186
  z51 := Tryd.sizeOf186
  v51 := Tryd.zeroValue186
  t53 := Tryd.underlying189
  a53 := Tryd.isAgg189
  z53 := Tryd.sizeOf189
  v53 := Tryd.zeroValue189
  t70 := Tryd.underlying146
  a70 := Tryd.isAgg146
  z70 := Tryd.sizeOf146
  v70 := Tryd.zeroValue146
  t72 := Tryd.underlying148
  a72 := Tryd.isAgg148
  z72 := Tryd.sizeOf148
  v72 := Tryd.zeroValue148
  t75 := Tryd.underlying151
  a75 := Tryd.isAgg151
  z75 := Tryd.sizeOf151
  v75 := Tryd.zeroValue151
  t76 := Tryd.underlying152
  a76 := Tryd.isAgg152
  z76 := Tryd.sizeOf152
  v76 := Tryd.zeroValue152
  t109 := Tryd.underlying144
  a109 := Tryd.isAgg144
  z109 := Tryd.sizeOf144
  v109 := Tryd.zeroValue144
  t127 := Tryd.underlying192
  a127 := Tryd.isAgg192
  z127 := Tryd.sizeOf192
  v127 := Tryd.zeroValue192
  t146 := Tryd.underlying187
  a146 := Tryd.isAgg187
  z146 := Tryd.sizeOf187
  v146 := Tryd.zeroValue187
  t148 := Tryd.underlying190
  a148 := Tryd.isAgg190
  z148 := Tryd.sizeOf190
  v148 := Tryd.zeroValue190
  t164 := Tryd.underlying206
  a164 := Tryd.isAgg206
  z164 := Tryd.sizeOf206
  v164 := Tryd.zeroValue206 }
theorem Tryd.Builder_Extra_105 : Builder.Extra Tryd.prog Tryd.lays105_ren := {
  sizeBuilder := by kernel_rfl
  liesBuilder := by kernel_rfl
  t5 := Tryd.underlying5
  a5 := Tryd.isAgg5
  z5 := Tryd.sizeOf5
  v5 := Tryd.zeroValue5
  infoByte := by kernel_rfl
  cellsByte := by kernel_rfl
  sizeByte := by kernel_rfl
  neB5 := by decide }
theorem Tryd.strings_Repeat (s : ByteArray) (c : Nat) (w : World) (hc : c ≤ 9223372036854775807) (hlen : s.size * c ≤ 140737488355328) :
    Calls Tryd.prog 88 #[.string s, .int .i64 c] w fun e w' => e = .returned (.string ⟨(Lib.repeatL s.data.toList c).toArray⟩) ∧ Below w.heap.size w w' := Any.strings_Repeat Tryd.lays105 Tryd.Builder_Extra_105 s c w hc hlen
end Go.Proofs
