/-
  Two spots alike.
  No condition.
-/
import Derived.Test.YtecffdgnmnpmbaaPkC3
import Derived.Laws.StructEq
import Derived.KernelRfl
namespace Go.Proofs.Ytecffdgnmnpmbaa
open Go Go.RowKit Go.Maps

theorem frq (w : World) (n : Nat) : Fr w (w.drewN n) Nil := (Fr.refl w Nil).drewN n
set_option maxRecDepth 100000 in
theorem Try.eqSp (a b : Spot) (w : World) : (Op.equalIn 10000 26 (spV a) (spV b)).run Try.prog w = .ok (decide (a = b)) w := by
  have u1 := Try.underlying3
  have u2 := Try.underlying4
  have u3 := Try.underlying2
  have z1 : ∀ w, (Go.sizeOf 3).run Try.prog w = .ok 1 w := fun w => by kernel_rfl
  have z2 : ∀ w, (Go.sizeOf 4).run Try.prog w = .ok 1 w := fun w => by kernel_rfl
  have z3 : ∀ w, (Go.sizeOf 2).run Try.prog w = .ok 1 w := fun w => by kernel_rfl
  have a1 : ∀ w, (isAgg 3).run Try.prog w = .ok false w := fun w => by kernel_rfl
  have a2 : ∀ w, (isAgg 4).run Try.prog w = .ok false w := fun w => by kernel_rfl
  have a3 : ∀ w, (isAgg 2).run Try.prog w = .ok false w := fun w => by kernel_rfl
  have hS : Try.prog.underlying 26 = some (.struct (Try.prog.fieldsOf 26)) := by kernel_rfl
  have hp : Try.prog.stoodInHeld 26 = false := by kernel_rfl
  obtain ⟨x1, x2, x3⟩ := a
  obtain ⟨y1, y2, y3⟩ := b
  rw [show (10000 : Nat) = 9999 + 1 from rfl, run_equalIn_agg w 9999 26 _ _ hS hp]
  simp only [Program.fieldsOf, Try.underlying26]
  go_simp
  by_cases h1 : x1 = y1 <;> by_cases h2 : x2 = y2 <;> by_cases h3 : x3 = y3 <;> simp [h1, h2, h3]
end Go.Proofs.Ytecffdgnmnpmbaa
