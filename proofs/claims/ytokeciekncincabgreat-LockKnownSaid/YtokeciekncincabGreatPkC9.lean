/-
  Two spots alike.
  No condition.
-/
import Derived.Test.YtokeciekncincabGreatPkC3
import Derived.Laws.StructEq
import Derived.KernelRfl
namespace Go.Proofs.YtokeciekncincabGreat
open Go Go.RowKit Go.Maps

theorem frq (w : World) (n : Nat) : Fr w (w.drewN n) Nil := (Fr.refl w Nil).drewN n
set_option maxRecDepth 100000 in
theorem Tryz.eqSp (a b : Spot) (w : World) : (Op.equalIn 10000 30 (spV a) (spV b)).run Tryz.prog w = .ok (decide (a = b)) w := by
  have u1 := Tryz.underlying3
  have u2 := Tryz.underlying4
  have u3 := Tryz.underlying2
  have z1 : ∀ w, (Go.sizeOf 3).run Tryz.prog w = .ok 1 w := fun w => by kernel_rfl
  have z2 : ∀ w, (Go.sizeOf 4).run Tryz.prog w = .ok 1 w := fun w => by kernel_rfl
  have z3 : ∀ w, (Go.sizeOf 2).run Tryz.prog w = .ok 1 w := fun w => by kernel_rfl
  have a1 : ∀ w, (isAgg 3).run Tryz.prog w = .ok false w := fun w => by kernel_rfl
  have a2 : ∀ w, (isAgg 4).run Tryz.prog w = .ok false w := fun w => by kernel_rfl
  have a3 : ∀ w, (isAgg 2).run Tryz.prog w = .ok false w := fun w => by kernel_rfl
  have hS : Tryz.prog.underlying 30 = some (.struct (Tryz.prog.fieldsOf 30)) := by kernel_rfl
  have hp : Tryz.prog.stoodInHeld 30 = false := by kernel_rfl
  obtain ⟨x1, x2, x3⟩ := a
  obtain ⟨y1, y2, y3⟩ := b
  rw [show (10000 : Nat) = 9999 + 1 from rfl, run_equalIn_agg w 9999 30 _ _ hS hp]
  simp only [Program.fieldsOf, Tryz.underlying30]
  go_simp
  by_cases h1 : x1 = y1 <;> by_cases h2 : x2 = y2 <;> by_cases h3 : x3 = y3 <;> simp [h1, h2, h3]
end Go.Proofs.YtokeciekncincabGreat
