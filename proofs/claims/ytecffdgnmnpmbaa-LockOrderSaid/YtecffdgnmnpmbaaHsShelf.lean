/-
  The sorts of integers as the library of contracts has them, at this program: laid by the kit's tool, in plain words.
  No condition.
-/
import Derived.Shelf.SortG.Plain
import Derived.Shelf.SortG.SortNone
import Derived.Shelf.SlicesG.CompactI
import Derived.Ground.SlgnProg
import Derived.Test.YtecffdgnmnpmbaaProg
namespace Go.Proofs.Ytecffdgnmnpmbaa
open Go.Shelf
def Try.laysSortI64_ren : Go.Shelf.Ren := ⟨fun | 53 => 38 | 64 => 53 | 63 => 60 | 78 => 75 | 79 => 76 | 70 => 80 | 71 => 81 | 72 => 82 | 73 => 83 | 74 => 84 | 75 => 85 | 59 => 86 | 76 => 87 | 77 => 88 | 88 => 95 | 89 => 91 | 90 => 92 | 91 => 96 | 92 => 97 | 68 => 78 | 96 => 99 | n => n, fun | 22 => 35 | 23 => 2 | 3 => 3 | 51 => 94 | 0 => 0 | 67 => 116 | 69 => 118 | 4 => 4 | 61 => 109 | 60 => 108 | 44 => 113 | 5 => 5 | 9 => 9 | 75 => 128 | 79 => 132 | 83 => 136 | 84 => 137 | n => n, fun | n => n⟩
theorem Try.laysSortI64 : Go.Proofs.SlLaysN.n53 Try.prog Try.laysSortI64_ren := {
  mixed := by kernel_rfl
  f53 := ⟨Try.f38.name, by decide, Try.func38.trans (congrArg some (by kernel_rfl))⟩
  f59 := ⟨Try.f86.name, by decide, Try.func86.trans (congrArg some (by kernel_rfl))⟩
  f63 := ⟨Try.f60.name, by decide, Try.func60.trans (congrArg some (by kernel_rfl))⟩
  f64 := Try.func53.trans (congrArg some (by kernel_rfl))
  f68 := ⟨Try.f78.name, by decide, Try.func78.trans (congrArg some (by kernel_rfl))⟩
  f70 := ⟨Try.f80.name, by decide, Try.func80.trans (congrArg some (by kernel_rfl))⟩
  f71 := ⟨Try.f81.name, by decide, Try.func81.trans (congrArg some (by kernel_rfl))⟩
  f72 := ⟨Try.f82.name, by decide, Try.func82.trans (congrArg some (by kernel_rfl))⟩
  f73 := ⟨Try.f83.name, by decide, Try.func83.trans (congrArg some (by kernel_rfl))⟩
  f74 := ⟨Try.f84.name, by decide, Try.func84.trans (congrArg some (by kernel_rfl))⟩
  f75 := ⟨Try.f85.name, by decide, Try.func85.trans (congrArg some (by kernel_rfl))⟩
  f76 := ⟨Try.f87.name, by decide, Try.func87.trans (congrArg some (by kernel_rfl))⟩
  f77 := ⟨Try.f88.name, by decide, Try.func88.trans (congrArg some (by kernel_rfl))⟩
  f78 := Try.func75.trans (congrArg some (by kernel_rfl))
  f79 := Try.func76.trans (congrArg some (by kernel_rfl))
  f88 := ⟨Try.f95.name, by decide, Try.func95.trans (congrArg some (by kernel_rfl))⟩
  f89 := Try.func91.trans (congrArg some (by kernel_rfl))
  f90 := Try.func92.trans (congrArg some (by kernel_rfl))
  f91 := ⟨Try.f96.name, by decide, Try.func96.trans (congrArg some (by kernel_rfl))⟩
  f92 := ⟨Try.f97.name, by decide, Try.func97.trans (congrArg some (by kernel_rfl))⟩
  f96 := ⟨Try.f99.name, by decide, Try.func99.trans (congrArg some (by kernel_rfl))⟩
  t0 := Try.underlying0
  a0 := Try.isAgg0
  z0 := Try.sizeOf0
  v0 := Try.zeroValue0
  t3 := Try.underlying3
  a3 := Try.isAgg3
  z3 := Try.sizeOf3
  v3 := Try.zeroValue3
  t4 := Try.underlying4
  a4 := Try.isAgg4
  z4 := Try.sizeOf4
  v4 := Try.zeroValue4
  t5 := Try.underlying5
  a5 := Try.isAgg5
  z5 := Try.sizeOf5
  v5 := Try.zeroValue5
  t9 := Try.underlying9
  a9 := Try.isAgg9
  z9 := Try.sizeOf9
  v9 := Try.zeroValue9
  t22 := Try.underlying35
  a22 := Try.isAgg35
  z22 := Try.sizeOf35
  v22 := Try.zeroValue35
  t23 := Try.underlying2
  a23 := Try.isAgg2
  z23 := Try.sizeOf2
  v23 := Try.zeroValue2
  t44 := Try.underlying113
  a44 := Try.isAgg113
  z44 := Try.sizeOf113
  v44 := Try.zeroValue113
  t51 := Try.underlying94
  a51 := Try.isAgg94
  z51 := Try.sizeOf94
  v51 := Try.zeroValue94
  t60 := Try.underlying108
  a60 := Try.isAgg108
  z60 := Try.sizeOf108
  v60 := Try.zeroValue108
  t61 := Try.underlying109
  a61 := Try.isAgg109
  z61 := Try.sizeOf109
  v61 := Try.zeroValue109
  t67 := Try.underlying116
  a67 := Try.isAgg116
  z67 := Try.sizeOf116
  v67 := Try.zeroValue116
  t69 := Try.underlying118
  a69 := Try.isAgg118
  z69 := Try.sizeOf118
  v69 := Try.zeroValue118
  t75 := Try.underlying128
  a75 := Try.isAgg128
  z75 := Try.sizeOf128
  v75 := Try.zeroValue128
  t79 := Try.underlying132
  a79 := Try.isAgg132
  z79 := Try.sizeOf132
  v79 := Try.zeroValue132
  t83 := Try.underlying136
  a83 := Try.isAgg136
  z83 := Try.sizeOf136
  v83 := Try.zeroValue136
  t84 := Try.underlying137
  a84 := Try.isAgg137
  z84 := Try.sizeOf137
  v84 := Try.zeroValue137 }
def Try.laysCompactI64_ren : Go.Shelf.Ren := ⟨fun | 43 => 39 | n => n, fun | 22 => 35 | 23 => 2 | 3 => 3 | 4 => 4 | 0 => 0 | n => n, fun | n => n⟩
theorem Try.laysCompactI64 : Go.Proofs.SlLaysN.n43 Try.prog Try.laysCompactI64_ren := {
  mixed := by kernel_rfl
  f43 := ⟨Try.f39.name, by decide, Try.func39.trans (congrArg some (by kernel_rfl))⟩
  t0 := Try.underlying0
  a0 := Try.isAgg0
  z0 := Try.sizeOf0
  v0 := Try.zeroValue0
  t3 := Try.underlying3
  a3 := Try.isAgg3
  z3 := Try.sizeOf3
  v3 := Try.zeroValue3
  t4 := Try.underlying4
  a4 := Try.isAgg4
  z4 := Try.sizeOf4
  v4 := Try.zeroValue4
  t22 := Try.underlying35
  a22 := Try.isAgg35
  z22 := Try.sizeOf35
  v22 := Try.zeroValue35
  t23 := Try.underlying2
  a23 := Try.isAgg2
  z23 := Try.sizeOf2
  v23 := Try.zeroValue2
  i23 := by kernel_rfl }
end Go.Proofs.Ytecffdgnmnpmbaa
