/-
  The sorts of integers as the library of contracts has them, at this program: laid by the kit's tool, in plain words.
  No condition.
-/
import Derived.Shelf.SortG.Plain
import Derived.Shelf.SortG.SortNone
import Derived.Shelf.SlicesG.CompactI
import Derived.Ground.SlgnProg
import Derived.Test.YtokeciekncincaaGreatProg
namespace Go.Proofs.YtokeciekncincaaGreat
open Go.Shelf
def Tryz.laysSortI64_ren : Go.Shelf.Ren := ⟨fun | 53 => 26 | 64 => 58 | 63 => 57 | 78 => 84 | 79 => 85 | 70 => 75 | 71 => 76 | 72 => 77 | 73 => 78 | 74 => 79 | 75 => 80 | 59 => 81 | 76 => 82 | 77 => 83 | 88 => 101 | 89 => 102 | 90 => 103 | 91 => 104 | 92 => 105 | 68 => 98 | 96 => 109 | n => n, fun | 22 => 34 | 23 => 2 | 3 => 3 | 51 => 100 | 0 => 0 | 67 => 124 | 69 => 126 | 4 => 4 | 61 => 116 | 60 => 115 | 44 => 121 | 5 => 5 | 9 => 9 | 75 => 139 | 79 => 143 | 83 => 147 | 84 => 148 | n => n, fun | n => n⟩
theorem Tryz.laysSortI64 : Go.Proofs.SlLaysN.n53 Tryz.prog Tryz.laysSortI64_ren := {
  mixed := by kernel_rfl
  f53 := ⟨Tryz.f26.name, by decide, Tryz.func26.trans (congrArg some (by kernel_rfl))⟩
  f59 := ⟨Tryz.f81.name, by decide, Tryz.func81.trans (congrArg some (by kernel_rfl))⟩
  f63 := ⟨Tryz.f57.name, by decide, Tryz.func57.trans (congrArg some (by kernel_rfl))⟩
  f64 := Tryz.func58.trans (congrArg some (by kernel_rfl))
  f68 := ⟨Tryz.f98.name, by decide, Tryz.func98.trans (congrArg some (by kernel_rfl))⟩
  f70 := ⟨Tryz.f75.name, by decide, Tryz.func75.trans (congrArg some (by kernel_rfl))⟩
  f71 := ⟨Tryz.f76.name, by decide, Tryz.func76.trans (congrArg some (by kernel_rfl))⟩
  f72 := ⟨Tryz.f77.name, by decide, Tryz.func77.trans (congrArg some (by kernel_rfl))⟩
  f73 := ⟨Tryz.f78.name, by decide, Tryz.func78.trans (congrArg some (by kernel_rfl))⟩
  f74 := ⟨Tryz.f79.name, by decide, Tryz.func79.trans (congrArg some (by kernel_rfl))⟩
  f75 := ⟨Tryz.f80.name, by decide, Tryz.func80.trans (congrArg some (by kernel_rfl))⟩
  f76 := ⟨Tryz.f82.name, by decide, Tryz.func82.trans (congrArg some (by kernel_rfl))⟩
  f77 := ⟨Tryz.f83.name, by decide, Tryz.func83.trans (congrArg some (by kernel_rfl))⟩
  f78 := Tryz.func84.trans (congrArg some (by kernel_rfl))
  f79 := Tryz.func85.trans (congrArg some (by kernel_rfl))
  f88 := ⟨Tryz.f101.name, by decide, Tryz.func101.trans (congrArg some (by kernel_rfl))⟩
  f89 := Tryz.func102.trans (congrArg some (by kernel_rfl))
  f90 := Tryz.func103.trans (congrArg some (by kernel_rfl))
  f91 := ⟨Tryz.f104.name, by decide, Tryz.func104.trans (congrArg some (by kernel_rfl))⟩
  f92 := ⟨Tryz.f105.name, by decide, Tryz.func105.trans (congrArg some (by kernel_rfl))⟩
  f96 := ⟨Tryz.f109.name, by decide, Tryz.func109.trans (congrArg some (by kernel_rfl))⟩
  t0 := Tryz.underlying0
  a0 := Tryz.isAgg0
  z0 := Tryz.sizeOf0
  v0 := Tryz.zeroValue0
  t3 := Tryz.underlying3
  a3 := Tryz.isAgg3
  z3 := Tryz.sizeOf3
  v3 := Tryz.zeroValue3
  t4 := Tryz.underlying4
  a4 := Tryz.isAgg4
  z4 := Tryz.sizeOf4
  v4 := Tryz.zeroValue4
  t5 := Tryz.underlying5
  a5 := Tryz.isAgg5
  z5 := Tryz.sizeOf5
  v5 := Tryz.zeroValue5
  t9 := Tryz.underlying9
  a9 := Tryz.isAgg9
  z9 := Tryz.sizeOf9
  v9 := Tryz.zeroValue9
  t22 := Tryz.underlying34
  a22 := Tryz.isAgg34
  z22 := Tryz.sizeOf34
  v22 := Tryz.zeroValue34
  t23 := Tryz.underlying2
  a23 := Tryz.isAgg2
  z23 := Tryz.sizeOf2
  v23 := Tryz.zeroValue2
  t44 := Tryz.underlying121
  a44 := Tryz.isAgg121
  z44 := Tryz.sizeOf121
  v44 := Tryz.zeroValue121
  t51 := Tryz.underlying100
  a51 := Tryz.isAgg100
  z51 := Tryz.sizeOf100
  v51 := Tryz.zeroValue100
  t60 := Tryz.underlying115
  a60 := Tryz.isAgg115
  z60 := Tryz.sizeOf115
  v60 := Tryz.zeroValue115
  t61 := Tryz.underlying116
  a61 := Tryz.isAgg116
  z61 := Tryz.sizeOf116
  v61 := Tryz.zeroValue116
  t67 := Tryz.underlying124
  a67 := Tryz.isAgg124
  z67 := Tryz.sizeOf124
  v67 := Tryz.zeroValue124
  t69 := Tryz.underlying126
  a69 := Tryz.isAgg126
  z69 := Tryz.sizeOf126
  v69 := Tryz.zeroValue126
  t75 := Tryz.underlying139
  a75 := Tryz.isAgg139
  z75 := Tryz.sizeOf139
  v75 := Tryz.zeroValue139
  t79 := Tryz.underlying143
  a79 := Tryz.isAgg143
  z79 := Tryz.sizeOf143
  v79 := Tryz.zeroValue143
  t83 := Tryz.underlying147
  a83 := Tryz.isAgg147
  z83 := Tryz.sizeOf147
  v83 := Tryz.zeroValue147
  t84 := Tryz.underlying148
  a84 := Tryz.isAgg148
  z84 := Tryz.sizeOf148
  v84 := Tryz.zeroValue148 }
def Tryz.laysCompactI64_ren : Go.Shelf.Ren := ⟨fun | 43 => 27 | n => n, fun | 22 => 34 | 23 => 2 | 3 => 3 | 4 => 4 | 0 => 0 | n => n, fun | n => n⟩
theorem Tryz.laysCompactI64 : Go.Proofs.SlLaysN.n43 Tryz.prog Tryz.laysCompactI64_ren := {
  mixed := by kernel_rfl
  f43 := ⟨Tryz.f27.name, by decide, Tryz.func27.trans (congrArg some (by kernel_rfl))⟩
  t0 := Tryz.underlying0
  a0 := Tryz.isAgg0
  z0 := Tryz.sizeOf0
  v0 := Tryz.zeroValue0
  t3 := Tryz.underlying3
  a3 := Tryz.isAgg3
  z3 := Tryz.sizeOf3
  v3 := Tryz.zeroValue3
  t4 := Tryz.underlying4
  a4 := Tryz.isAgg4
  z4 := Tryz.sizeOf4
  v4 := Tryz.zeroValue4
  t22 := Tryz.underlying34
  a22 := Tryz.isAgg34
  z22 := Tryz.sizeOf34
  v22 := Tryz.zeroValue34
  t23 := Tryz.underlying2
  a23 := Tryz.isAgg2
  z23 := Tryz.sizeOf2
  v23 := Tryz.zeroValue2
  i23 := by kernel_rfl }
end Go.Proofs.YtokeciekncincaaGreat
