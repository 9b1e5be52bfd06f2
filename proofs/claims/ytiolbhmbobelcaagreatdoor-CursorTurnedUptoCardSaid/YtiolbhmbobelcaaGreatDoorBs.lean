/- The kit's contracts of the library's functions, laid at this program. -/
import Derived.Test.YtiolbhmbobelcaaGreatDoorProg
import Derived.Shelf.Unicode.ValidAny
import Derived.Shelf.Small.Strs
namespace Go.Proofs
open Go.Shelf
def YtiolbhmbobelcaaGreatDoor.laysn196_ren : Go.Shelf.Ren := ⟨fun | 196 => 14 | 259 => 28 | n => n, fun | 9 => 9 | 4 => 4 | 3 => 3 | 5 => 5 | 12 => 12 | 119 => 75 | 0 => 0 | 46 => 79 | 139 => 78 | 138 => 77 | 53 => 43 | n => n, fun | 3 => 1 | 4 => 2 | n => n⟩
theorem YtiolbhmbobelcaaGreatDoor.laysn196 : Go.Proofs.Lays.n196 Tryz.prog YtiolbhmbobelcaaGreatDoor.laysn196_ren where
  mixed := by kernel_rfl
  f196 := Tryz.func14.trans (congrArg some (by kernel_rfl))
  f259 := Tryz.func28.trans (congrArg some (by kernel_rfl))
  t0 := Tryz.underlying0
  a0 := Tryz.isAgg0
  z0 := Tryz.sizeOf0
  v0 := Tryz.zeroValue0
  t3 := Tryz.underlying3
  a3 := Tryz.isAgg3
  z3 := Tryz.sizeOf3
  v3 := Tryz.zeroValue3
  t4 := Tryz.underlying4
  a4 := Tryz.isAgg4
  z4 := Tryz.sizeOf4
  v4 := Tryz.zeroValue4
  t5 := Tryz.underlying5
  a5 := Tryz.isAgg5
  z5 := Tryz.sizeOf5
  v5 := Tryz.zeroValue5
  t9 := Tryz.underlying9
  a9 := Tryz.isAgg9
  z9 := Tryz.sizeOf9
  v9 := Tryz.zeroValue9
  t12 := Tryz.underlying12
  a12 := Tryz.isAgg12
  z12 := Tryz.sizeOf12
  v12 := Tryz.zeroValue12
  t46 := Tryz.underlying79
  a46 := Tryz.isAgg79
  z46 := Tryz.sizeOf79
  v46 := Tryz.zeroValue79
  t53 := Tryz.underlying43
  a53 := Tryz.isAgg43
  z53 := Tryz.sizeOf43
  v53 := Tryz.zeroValue43
  t119 := Tryz.underlying75
  a119 := Tryz.isAgg75
  z119 := Tryz.sizeOf75
  t138 := Tryz.underlying77
  a138 := Tryz.isAgg77
  z138 := Tryz.sizeOf77
  v138 := Tryz.zeroValue77
  t139 := Tryz.underlying78
  a139 := Tryz.isAgg78
  z139 := Tryz.sizeOf78
  v139 := Tryz.zeroValue78
  g3 := by kernel_rfl
  g4 := by kernel_rfl
def YtiolbhmbobelcaaGreatDoor.laysn106_ren : Go.Shelf.Ren := ⟨fun | 106 => 36 | 213 => 55 | 265 => 71 | n => n, fun | 9 => 9 | 3 => 3 | n => n, fun | n => n⟩
theorem YtiolbhmbobelcaaGreatDoor.laysn106 : Go.Proofs.Lays.n106 Tryz.prog YtiolbhmbobelcaaGreatDoor.laysn106_ren where
  mixed := by kernel_rfl
  f106 := Tryz.func36.trans (congrArg some (by kernel_rfl))
  f213 := Tryz.func55.trans (congrArg some (by kernel_rfl))
  f265 := Tryz.func71.trans (congrArg some (by kernel_rfl))
  t3 := Tryz.underlying3
  a3 := Tryz.isAgg3
  z3 := Tryz.sizeOf3
  v3 := Tryz.zeroValue3
  t9 := Tryz.underlying9
  a9 := Tryz.isAgg9
  z9 := Tryz.sizeOf9
  v9 := Tryz.zeroValue9
namespace YtiolbhmbobelcaaGreatDoor
theorem strings_Compare (a b : ByteArray) (w : World) : Calls Tryz.prog 36 #[.string a, .string b] w fun e w' => e = .returned (.int .i64 (Lib.compareBytes a.data.toList b.data.toList)) ∧ w' = w := Any.strings_Compare laysn106 a b w
theorem validString (s : ByteArray) (w : World) (hs : s.size ≤ 9223372036854775807) (hT : Lib.Utf8Tabs 1 2 w) :
    Calls Tryz.prog 14 #[.string s] w fun e w' => e = .returned (.bool (Lib.validD s.data.toList)) ∧ RowKit.Below w.heap.size w w' := Any.utf8_ValidString laysn196 s w hs hT
end YtiolbhmbobelcaaGreatDoor
end Go.Proofs
