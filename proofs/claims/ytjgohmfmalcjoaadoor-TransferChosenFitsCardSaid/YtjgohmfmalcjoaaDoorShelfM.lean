import Derived.Shelf.Bytes.SlTrim
import Derived.Ground.SlbvProg
import Derived.Shelf.Bytes.SlIndexAt
import Derived.Ground.NamesProg
import Derived.Test.YtjgohmfmalcjoaaDoorProg
/- The shelf's contracts of bytes.TrimRight and bytes.IndexByte, as the kit's lay-plain.mjs wrote it; numbers by name. -/
/- The shelf's contracts of bytes.TrimRight and bytes.IndexByte at this seat's dump, as the kit's lay-plain.mjs wrote them (numbers of seat Ytjgohmfmalcjoaa.D). -/
namespace Go.Proofs
open Go.Shelf
def Tryd.laysTR_ren : Go.Shelf.Ren := ⟨fun | 7 => 149 | 10 => 157 | 11 => 158 | 13 => 159 | 15 => 160 | 16 => 161 | 19 => 162 | 18 => 163 | 21 => 144 | 17 => 129 | 20 => 148 | n => n, fun | 22 => 22 | 9 => 9 | 3 => 3 | 4 => 4 | 5 => 5 | 28 => 142 | 27 => 141 | 0 => 0 | 31 => 145 | 21 => 21 | 33 => 120 | 36 => 136 | 37 => 79 | 40 => 139 | 39 => 138 | n => n, fun | 0 => 1 | 1 => 2 | n => n⟩
theorem Tryd.laysTR : Go.Proofs.SlLaysV.n7 Tryd.prog Tryd.laysTR_ren := {
  mixed := by kernel_rfl
  f7 := Tryd.func149.trans (congrArg some (by kernel_rfl))
  f10 := Tryd.func157.trans (congrArg some (by kernel_rfl))
  f11 := Tryd.func158.trans (congrArg some (by kernel_rfl))
  f13 := Tryd.func159.trans (congrArg some (by kernel_rfl))
  f15 := Tryd.func160.trans (congrArg some (by kernel_rfl))
  f16 := Tryd.func161.trans (congrArg some (by kernel_rfl))
  f17 := Tryd.func129.trans (congrArg some (by kernel_rfl))
  f18 := Tryd.func163.trans (congrArg some (by kernel_rfl))
  f19 := Tryd.func162.trans (congrArg some (by kernel_rfl))
  f20 := Tryd.func148.trans (congrArg some (by kernel_rfl))
  f21 := Tryd.func144.trans (congrArg some (by kernel_rfl))
  t0 := Tryd.underlying0
  a0 := Tryd.isAgg0
  z0 := Tryd.sizeOf0
  v0 := Tryd.zeroValue0
  t3 := Tryd.underlying3
  a3 := Tryd.isAgg3
  z3 := Tryd.sizeOf3
  v3 := Tryd.zeroValue3
  t4 := Tryd.underlying4
  a4 := Tryd.isAgg4
  z4 := Tryd.sizeOf4
  v4 := Tryd.zeroValue4
  t5 := Tryd.underlying5
  a5 := Tryd.isAgg5
  z5 := Tryd.sizeOf5
  v5 := Tryd.zeroValue5
  t9 := Tryd.underlying9
  a9 := Tryd.isAgg9
  z9 := Tryd.sizeOf9
  v9 := Tryd.zeroValue9
  t21 := Tryd.underlying21
  a21 := Tryd.isAgg21
  z21 := Tryd.sizeOf21
  v21 := Tryd.zeroValue21
  t22 := Tryd.underlying22
  a22 := Tryd.isAgg22
  z22 := Tryd.sizeOf22
  v22 := Tryd.zeroValue22
  t27 := Tryd.underlying141
  a27 := Tryd.isAgg141
  z27 := Tryd.sizeOf141
  t28 := Tryd.underlying142
  a28 := Tryd.isAgg142
  z28 := Tryd.sizeOf142
  v28 := Tryd.zeroValue142
  t31 := Tryd.underlying145
  a31 := Tryd.isAgg145
  z31 := Tryd.sizeOf145
  v31 := Tryd.zeroValue145
  t33 := Tryd.underlying120
  a33 := Tryd.isAgg120
  z33 := Tryd.sizeOf120
  v33 := Tryd.zeroValue120
  t36 := Tryd.underlying136
  a36 := Tryd.isAgg136
  z36 := Tryd.sizeOf136
  t37 := Tryd.underlying79
  a37 := Tryd.isAgg79
  z37 := Tryd.sizeOf79
  v37 := Tryd.zeroValue79
  t39 := Tryd.underlying138
  a39 := Tryd.isAgg138
  z39 := Tryd.sizeOf138
  v39 := Tryd.zeroValue138
  t40 := Tryd.underlying139
  a40 := Tryd.isAgg139
  z40 := Tryd.sizeOf139
  v40 := Tryd.zeroValue139 }
end Go.Proofs
