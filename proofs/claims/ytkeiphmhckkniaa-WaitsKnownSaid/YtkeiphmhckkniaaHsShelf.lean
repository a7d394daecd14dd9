/-
  The sorts of integers as the library of contracts has them, at this program: laid by the kit's tool, in plain words.
  No condition.
-/
import Derived.Shelf.SortG.Plain
import Derived.Shelf.SortG.SortNone
import Derived.Shelf.SlicesG.CompactI
import Derived.Shelf.SlicesE.DeleteFunc
import Derived.Ground.SlgfProg
import Derived.Shelf.SlicesG.SearchI
import Derived.Ground.SlgnProg
import Derived.Test.YtkeiphmhckkniaaProg
namespace Go.Proofs.Ytkeiphmhckkniaa
open Go.Shelf
def Try.laysSortInt_ren : Go.Shelf.Ren := ⟨fun | 53 => 36 | 64 => 47 | 63 => 46 | 78 => 59 | 79 => 60 | 70 => 51 | 71 => 52 | 72 => 53 | 73 => 54 | 74 => 55 | 75 => 56 | 59 => 44 | 76 => 57 | 77 => 58 | 88 => 61 | 89 => 62 | 90 => 63 | 91 => 64 | 92 => 65 | 68 => 50 | 96 => 66 | n => n, fun | 22 => 27 | 23 => 3 | 3 => 3 | 51 => 70 | 0 => 0 | 67 => 82 | 69 => 84 | 4 => 4 | 61 => 76 | 60 => 75 | 44 => 55 | 5 => 5 | 9 => 9 | 75 => 85 | 79 => 89 | 83 => 91 | 84 => 92 | n => n, fun | n => n⟩
theorem Try.laysSortInt : Go.Proofs.SlLaysN.n53 Try.prog Try.laysSortInt_ren := {
  mixed := by kernel_rfl
  f53 := ⟨Try.f36.name, by decide, Try.func36.trans (congrArg some (by kernel_rfl))⟩
  f59 := ⟨Try.f44.name, by decide, Try.func44.trans (congrArg some (by kernel_rfl))⟩
  f63 := ⟨Try.f46.name, by decide, Try.func46.trans (congrArg some (by kernel_rfl))⟩
  f64 := Try.func47.trans (congrArg some (by kernel_rfl))
  f68 := ⟨Try.f50.name, by decide, Try.func50.trans (congrArg some (by kernel_rfl))⟩
  f70 := ⟨Try.f51.name, by decide, Try.func51.trans (congrArg some (by kernel_rfl))⟩
  f71 := ⟨Try.f52.name, by decide, Try.func52.trans (congrArg some (by kernel_rfl))⟩
  f72 := ⟨Try.f53.name, by decide, Try.func53.trans (congrArg some (by kernel_rfl))⟩
  f73 := ⟨Try.f54.name, by decide, Try.func54.trans (congrArg some (by kernel_rfl))⟩
  f74 := ⟨Try.f55.name, by decide, Try.func55.trans (congrArg some (by kernel_rfl))⟩
  f75 := ⟨Try.f56.name, by decide, Try.func56.trans (congrArg some (by kernel_rfl))⟩
  f76 := ⟨Try.f57.name, by decide, Try.func57.trans (congrArg some (by kernel_rfl))⟩
  f77 := ⟨Try.f58.name, by decide, Try.func58.trans (congrArg some (by kernel_rfl))⟩
  f78 := Try.func59.trans (congrArg some (by kernel_rfl))
  f79 := Try.func60.trans (congrArg some (by kernel_rfl))
  f88 := ⟨Try.f61.name, by decide, Try.func61.trans (congrArg some (by kernel_rfl))⟩
  f89 := Try.func62.trans (congrArg some (by kernel_rfl))
  f90 := Try.func63.trans (congrArg some (by kernel_rfl))
  f91 := ⟨Try.f64.name, by decide, Try.func64.trans (congrArg some (by kernel_rfl))⟩
  f92 := ⟨Try.f65.name, by decide, Try.func65.trans (congrArg some (by kernel_rfl))⟩
  f96 := ⟨Try.f66.name, by decide, Try.func66.trans (congrArg some (by kernel_rfl))⟩
  t0 := Try.underlying0
  a0 := Try.isAgg0
  z0 := Try.sizeOf0
  v0 := Try.zeroValue0
  t3 := Try.underlying3
  a3 := Try.isAgg3
  z3 := Try.sizeOf3
  v3 := Try.zeroValue3
  t4 := Try.underlying4
  a4 := Try.isAgg4
  z4 := Try.sizeOf4
  v4 := Try.zeroValue4
  t5 := Try.underlying5
  a5 := Try.isAgg5
  z5 := Try.sizeOf5
  v5 := Try.zeroValue5
  t9 := Try.underlying9
  a9 := Try.isAgg9
  z9 := Try.sizeOf9
  v9 := Try.zeroValue9
  t22 := Try.underlying27
  a22 := Try.isAgg27
  z22 := Try.sizeOf27
  v22 := Try.zeroValue27
  t23 := Try.underlying3
  a23 := Try.isAgg3
  z23 := Try.sizeOf3
  v23 := Try.zeroValue3
  t44 := Try.underlying55
  a44 := Try.isAgg55
  z44 := Try.sizeOf55
  v44 := Try.zeroValue55
  t51 := Try.underlying70
  a51 := Try.isAgg70
  z51 := Try.sizeOf70
  v51 := Try.zeroValue70
  t60 := Try.underlying75
  a60 := Try.isAgg75
  z60 := Try.sizeOf75
  v60 := Try.zeroValue75
  t61 := Try.underlying76
  a61 := Try.isAgg76
  z61 := Try.sizeOf76
  v61 := Try.zeroValue76
  t67 := Try.underlying82
  a67 := Try.isAgg82
  z67 := Try.sizeOf82
  v67 := Try.zeroValue82
  t69 := Try.underlying84
  a69 := Try.isAgg84
  z69 := Try.sizeOf84
  v69 := Try.zeroValue84
  t75 := Try.underlying85
  a75 := Try.isAgg85
  z75 := Try.sizeOf85
  v75 := Try.zeroValue85
  t79 := Try.underlying89
  a79 := Try.isAgg89
  z79 := Try.sizeOf89
  v79 := Try.zeroValue89
  t83 := Try.underlying91
  a83 := Try.isAgg91
  z83 := Try.sizeOf91
  v83 := Try.zeroValue91
  t84 := Try.underlying92
  a84 := Try.isAgg92
  z84 := Try.sizeOf92
  v84 := Try.zeroValue92 }
def Try.laysCompactInt_ren : Go.Shelf.Ren := ⟨fun | 43 => 41 | n => n, fun | 22 => 27 | 23 => 3 | 3 => 3 | 4 => 4 | 0 => 0 | n => n, fun | n => n⟩
theorem Try.laysCompactInt : Go.Proofs.SlLaysN.n43 Try.prog Try.laysCompactInt_ren := {
  mixed := by kernel_rfl
  f43 := ⟨Try.f41.name, by decide, Try.func41.trans (congrArg some (by kernel_rfl))⟩
  t0 := Try.underlying0
  a0 := Try.isAgg0
  z0 := Try.sizeOf0
  v0 := Try.zeroValue0
  t3 := Try.underlying3
  a3 := Try.isAgg3
  z3 := Try.sizeOf3
  v3 := Try.zeroValue3
  t4 := Try.underlying4
  a4 := Try.isAgg4
  z4 := Try.sizeOf4
  v4 := Try.zeroValue4
  t22 := Try.underlying27
  a22 := Try.isAgg27
  z22 := Try.sizeOf27
  v22 := Try.zeroValue27
  t23 := Try.underlying3
  a23 := Try.isAgg3
  z23 := Try.sizeOf3
  v23 := Try.zeroValue3
  i23 := by kernel_rfl }
def Try.laysDeleteInt_ren : Go.Shelf.Ren := ⟨fun | 10 => 37 | 6 => 48 | n => n, fun | 22 => 27 | 23 => 3 | 25 => 61 | 3 => 3 | 4 => 4 | 0 => 0 | n => n, fun | n => n⟩
theorem Try.laysDeleteInt : Go.Proofs.SlLaysH.n10 Try.prog Try.laysDeleteInt_ren := {
  mixed := by kernel_rfl
  f6 := ⟨Try.f48.name, by decide, Try.func48.trans (congrArg some (by kernel_rfl))⟩
  f10 := ⟨Try.f37.name, by decide, Try.func37.trans (congrArg some (by kernel_rfl))⟩
  t0 := Try.underlying0
  a0 := Try.isAgg0
  z0 := Try.sizeOf0
  v0 := Try.zeroValue0
  t3 := Try.underlying3
  a3 := Try.isAgg3
  z3 := Try.sizeOf3
  v3 := Try.zeroValue3
  t4 := Try.underlying4
  a4 := Try.isAgg4
  z4 := Try.sizeOf4
  v4 := Try.zeroValue4
  t22 := Try.underlying27
  a22 := Try.isAgg27
  z22 := Try.sizeOf27
  v22 := Try.zeroValue27
  a23 := Try.isAgg3
  z23 := Try.sizeOf3
  t25 := Try.underlying61
  a25 := Try.isAgg61
  z25 := Try.sizeOf61
  v25 := Try.zeroValue61 }
def Try.laysSearchInt_ren : Go.Shelf.Ren := ⟨fun | 49 => 35 | 59 => 44 | 60 => 45 | 68 => 50 | n => n, fun | 22 => 27 | 23 => 3 | 3 => 3 | 4 => 4 | 51 => 70 | 0 => 0 | n => n, fun | n => n⟩
theorem Try.laysSearchInt : Go.Proofs.SlLaysN.n49 Try.prog Try.laysSearchInt_ren := {
  mixed := by kernel_rfl
  f49 := ⟨Try.f35.name, by decide, Try.func35.trans (congrArg some (by kernel_rfl))⟩
  f59 := ⟨Try.f44.name, by decide, Try.func44.trans (congrArg some (by kernel_rfl))⟩
  f60 := ⟨Try.f45.name, by decide, Try.func45.trans (congrArg some (by kernel_rfl))⟩
  f68 := ⟨Try.f50.name, by decide, Try.func50.trans (congrArg some (by kernel_rfl))⟩
  t0 := Try.underlying0
  a0 := Try.isAgg0
  z0 := Try.sizeOf0
  v0 := Try.zeroValue0
  t3 := Try.underlying3
  a3 := Try.isAgg3
  z3 := Try.sizeOf3
  v3 := Try.zeroValue3
  t4 := Try.underlying4
  a4 := Try.isAgg4
  z4 := Try.sizeOf4
  v4 := Try.zeroValue4
  t22 := Try.underlying27
  a22 := Try.isAgg27
  z22 := Try.sizeOf27
  v22 := Try.zeroValue27
  t23 := Try.underlying3
  a23 := Try.isAgg3
  z23 := Try.sizeOf3
  v23 := Try.zeroValue3
  t51 := Try.underlying70
  a51 := Try.isAgg70
  z51 := Try.sizeOf70
  v51 := Try.zeroValue70 }
end Go.Proofs.Ytkeiphmhckkniaa
