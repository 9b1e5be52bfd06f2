/- The kit's contracts of the library's functions, laid at this program. -/
import Derived.Test.YtjedleoebjmkgaaProg
import Derived.Shelf.Small.Strs
namespace Go.Proofs
open Go.Shelf
def Ytjedleoebjmkgaa.lays106_ren : Go.Shelf.Ren := ⟨fun | 106 => 68 | 213 => 72 | 265 => 73 | n => n, fun | 9 => 9 | 3 => 3 | n => n, fun | n => n⟩
theorem Ytjedleoebjmkgaa.lays106 : Lays.n106 Try.prog Ytjedleoebjmkgaa.lays106_ren where
  mixed := by kernel_rfl
  f106 := Try.func68.trans (congrArg some (by kernel_rfl))
  f213 := Try.func72.trans (congrArg some (by kernel_rfl))
  f265 := Try.func73.trans (congrArg some (by kernel_rfl))
  t3 := Try.underlying3
  a3 := Try.isAgg3
  z3 := Try.sizeOf3
  v3 := Try.zeroValue3
  t9 := Try.underlying9
  a9 := Try.isAgg9
  z9 := Try.sizeOf9
  v9 := Try.zeroValue9
namespace Ytjedleoebjmkgaa
theorem strings_Compare (a b : ByteArray) (w : World) : Calls Try.prog 68 #[.string a, .string b] w fun e w' => e = .returned (.int .i64 (Lib.compareBytes a.data.toList b.data.toList)) ∧ w' = w := Any.strings_Compare lays106 a b w
end Ytjedleoebjmkgaa
end Go.Proofs
