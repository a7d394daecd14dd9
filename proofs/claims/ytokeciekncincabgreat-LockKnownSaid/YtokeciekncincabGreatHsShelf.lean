/-
  The sorts of integers as the library of contracts has them, at this program: laid by the kit's tool, in plain words.
  No condition.
-/
import Derived.Shelf.SortG.Plain
import Derived.Shelf.SortG.SortNone
import Derived.Shelf.SlicesG.CompactI
import Derived.Ground.SlgnProg
import Derived.Test.YtokeciekncincabGreatProg
namespace Go.Proofs.YtokeciekncincabGreat
open Go.Shelf
def Tryz.laysSortI64_ren : Go.Shelf.Ren := ⟨fun | 53 => 56 | 64 => 78 | 63 => 86 | 78 => 101 | 79 => 102 | 70 => 106 | 71 => 107 | 72 => 108 | 73 => 109 | 74 => 110 | 75 => 111 | 59 => 112 | 76 => 113 | 77 => 114 | 88 => 120 | 89 => 116 | 90 => 117 | 91 => 121 | 92 => 122 | 68 => 104 | 96 => 124 | n => n, fun | 22 => 40 | 23 => 2 | 3 => 3 | 51 => 112 | 0 => 0 | 67 => 134 | 69 => 136 | 4 => 4 | 61 => 127 | 60 => 126 | 44 => 131 | 5 => 5 | 9 => 9 | 75 => 146 | 79 => 150 | 83 => 154 | 84 => 155 | n => n, fun | n => n⟩
theorem Tryz.laysSortI64 : Go.Proofs.SlLaysN.n53 Tryz.prog Tryz.laysSortI64_ren := {
  mixed := by kernel_rfl
  f53 := ⟨Tryz.f56.name, by decide, Tryz.func56.trans (congrArg some (by kernel_rfl))⟩
  f59 := ⟨Tryz.f112.name, by decide, Tryz.func112.trans (congrArg some (by kernel_rfl))⟩
  f63 := ⟨Tryz.f86.name, by decide, Tryz.func86.trans (congrArg some (by kernel_rfl))⟩
  f64 := Tryz.func78.trans (congrArg some (by kernel_rfl))
  f68 := ⟨Tryz.f104.name, by decide, Tryz.func104.trans (congrArg some (by kernel_rfl))⟩
  f70 := ⟨Tryz.f106.name, by decide, Tryz.func106.trans (congrArg some (by kernel_rfl))⟩
  f71 := ⟨Tryz.f107.name, by decide, Tryz.func107.trans (congrArg some (by kernel_rfl))⟩
  f72 := ⟨Tryz.f108.name, by decide, Tryz.func108.trans (congrArg some (by kernel_rfl))⟩
  f73 := ⟨Tryz.f109.name, by decide, Tryz.func109.trans (congrArg some (by kernel_rfl))⟩
  f74 := ⟨Tryz.f110.name, by decide, Tryz.func110.trans (congrArg some (by kernel_rfl))⟩
  f75 := ⟨Tryz.f111.name, by decide, Tryz.func111.trans (congrArg some (by kernel_rfl))⟩
  f76 := ⟨Tryz.f113.name, by decide, Tryz.func113.trans (congrArg some (by kernel_rfl))⟩
  f77 := ⟨Tryz.f114.name, by decide, Tryz.func114.trans (congrArg some (by kernel_rfl))⟩
  f78 := Tryz.func101.trans (congrArg some (by kernel_rfl))
  f79 := Tryz.func102.trans (congrArg some (by kernel_rfl))
  f88 := ⟨Tryz.f120.name, by decide, Tryz.func120.trans (congrArg some (by kernel_rfl))⟩
  f89 := Tryz.func116.trans (congrArg some (by kernel_rfl))
  f90 := Tryz.func117.trans (congrArg some (by kernel_rfl))
  f91 := ⟨Tryz.f121.name, by decide, Tryz.func121.trans (congrArg some (by kernel_rfl))⟩
  f92 := ⟨Tryz.f122.name, by decide, Tryz.func122.trans (congrArg some (by kernel_rfl))⟩
  f96 := ⟨Tryz.f124.name, by decide, Tryz.func124.trans (congrArg some (by kernel_rfl))⟩
  t0 := Tryz.underlying0
  a0 := Tryz.isAgg0
  z0 := Tryz.sizeOf0
  v0 := Tryz.zeroValue0
  t3 := Tryz.underlying3
  a3 := Tryz.isAgg3
  z3 := Tryz.sizeOf3
  v3 := Tryz.zeroValue3
  t4 := Tryz.underlying4
  a4 := Tryz.isAgg4
  z4 := Tryz.sizeOf4
  v4 := Tryz.zeroValue4
  t5 := Tryz.underlying5
  a5 := Tryz.isAgg5
  z5 := Tryz.sizeOf5
  v5 := Tryz.zeroValue5
  t9 := Tryz.underlying9
  a9 := Tryz.isAgg9
  z9 := Tryz.sizeOf9
  v9 := Tryz.zeroValue9
  t22 := Tryz.underlying40
  a22 := Tryz.isAgg40
  z22 := Tryz.sizeOf40
  v22 := Tryz.zeroValue40
  t23 := Tryz.underlying2
  a23 := Tryz.isAgg2
  z23 := Tryz.sizeOf2
  v23 := Tryz.zeroValue2
  t44 := Tryz.underlying131
  a44 := Tryz.isAgg131
  z44 := Tryz.sizeOf131
  v44 := Tryz.zeroValue131
  t51 := Tryz.underlying112
  a51 := Tryz.isAgg112
  z51 := Tryz.sizeOf112
  v51 := Tryz.zeroValue112
  t60 := Tryz.underlying126
  a60 := Tryz.isAgg126
  z60 := Tryz.sizeOf126
  v60 := Tryz.zeroValue126
  t61 := Tryz.underlying127
  a61 := Tryz.isAgg127
  z61 := Tryz.sizeOf127
  v61 := Tryz.zeroValue127
  t67 := Tryz.underlying134
  a67 := Tryz.isAgg134
  z67 := Tryz.sizeOf134
  v67 := Tryz.zeroValue134
  t69 := Tryz.underlying136
  a69 := Tryz.isAgg136
  z69 := Tryz.sizeOf136
  v69 := Tryz.zeroValue136
  t75 := Tryz.underlying146
  a75 := Tryz.isAgg146
  z75 := Tryz.sizeOf146
  v75 := Tryz.zeroValue146
  t79 := Tryz.underlying150
  a79 := Tryz.isAgg150
  z79 := Tryz.sizeOf150
  v79 := Tryz.zeroValue150
  t83 := Tryz.underlying154
  a83 := Tryz.isAgg154
  z83 := Tryz.sizeOf154
  v83 := Tryz.zeroValue154
  t84 := Tryz.underlying155
  a84 := Tryz.isAgg155
  z84 := Tryz.sizeOf155
  v84 := Tryz.zeroValue155 }
def Tryz.laysCompactI64_ren : Go.Shelf.Ren := ⟨fun | 43 => 57 | n => n, fun | 22 => 40 | 23 => 2 | 3 => 3 | 4 => 4 | 0 => 0 | n => n, fun | n => n⟩
theorem Tryz.laysCompactI64 : Go.Proofs.SlLaysN.n43 Tryz.prog Tryz.laysCompactI64_ren := {
  mixed := by kernel_rfl
  f43 := ⟨Tryz.f57.name, by decide, Tryz.func57.trans (congrArg some (by kernel_rfl))⟩
  t0 := Tryz.underlying0
  a0 := Tryz.isAgg0
  z0 := Tryz.sizeOf0
  v0 := Tryz.zeroValue0
  t3 := Tryz.underlying3
  a3 := Tryz.isAgg3
  z3 := Tryz.sizeOf3
  v3 := Tryz.zeroValue3
  t4 := Tryz.underlying4
  a4 := Tryz.isAgg4
  z4 := Tryz.sizeOf4
  v4 := Tryz.zeroValue4
  t22 := Tryz.underlying40
  a22 := Tryz.isAgg40
  z22 := Tryz.sizeOf40
  v22 := Tryz.zeroValue40
  t23 := Tryz.underlying2
  a23 := Tryz.isAgg2
  z23 := Tryz.sizeOf2
  v23 := Tryz.zeroValue2
  i23 := by kernel_rfl }
end Go.Proofs.YtokeciekncincabGreat
