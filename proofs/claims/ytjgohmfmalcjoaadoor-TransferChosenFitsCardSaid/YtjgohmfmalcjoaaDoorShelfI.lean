import Derived.Shelf.Bytes.SlIndexAt
import Derived.Ground.NamesProg
import Derived.Test.YtjgohmfmalcjoaaDoorProg
/- The shelf's contract of bytes.IndexByte, as the kit's lay-plain.mjs wrote it; numbers by name. -/
namespace Go.Proofs
open Go.Shelf
def Tryd.laysIB_ren : Go.Shelf.Ren := ⟨fun | 187 => 138 | 255 => 151 | n => n, fun | 37 => 22 | 5 => 5 | 3 => 3 | n => n, fun | n => n⟩
theorem Tryd.laysIB : Go.Proofs.Lays.n187 Tryd.prog Tryd.laysIB_ren := {
  mixed := by kernel_rfl
  f187 := Tryd.func138.trans (congrArg some (by kernel_rfl))
  f255 := Tryd.func151.trans (congrArg some (by kernel_rfl))
  t3 := Tryd.underlying3
  a3 := Tryd.isAgg3
  z3 := Tryd.sizeOf3
  v3 := Tryd.zeroValue3
  t5 := Tryd.underlying5
  a5 := Tryd.isAgg5
  z5 := Tryd.sizeOf5
  v5 := Tryd.zeroValue5
  t37 := Tryd.underlying22
  a37 := Tryd.isAgg22
  z37 := Tryd.sizeOf22
  v37 := Tryd.zeroValue22 }
end Go.Proofs
