/-
 A store of a whole struct into a block that is known whole.
 No condition.
-/
import Derived.Test.YtgpekgnhbccnoaaGreatPkY1
import Derived.Laws.CopyRow
namespace Go.Proofs.YtgpekgnhbccnoaaGreat
open Go Go.RowKit

theorem wp_store_bk {P : Program} {o : Oper} {a : Act} {w : World} {K : Act → World → Prop} {Q : Exit → Act → World → Prop} (t : TypeId) (x y : Operand) (ho : o.op = .store t x y) (b : Nat) (e : TypeId) (cs0 cs : List Value) (v : Value)
  (hx : a.eval x = .pointer (some ⟨b, 0, none⟩)) (hy : a.eval y = v) (hv : v.cells.toList = cs) (i : TypeInfo) (hi : P.info? t = some i) (hsz : i.size = cs.length) (hb : Bk w b e cs0) (hl : cs0.length = cs.length) (h1 : ∀ u ∈ cs, u.oneCell' = true)
  (h : ∀ w', Bk w' b e cs → Fr w w' (fun k => k = b) → K (a.put o.dst undef) w') : o.wp P a w K Q := by
 have hst := run_storeCells_at P b 0 e cs 0 cs0.toArray w hb (by simp; omega) h1
 simp only [Nat.add_zero, Nat.zero_add, List.take_zero, List.nil_append] at hst
 have e1 : (cs ++ cs0.drop cs.length) = cs := by rw [← hl, List.drop_length, List.append_nil]
 rw [e1] at hst
 have hcs : v.cells.size = cs.length := by rw [← hv, Array.length_toList]
 unfold Oper.wp execOp
 simp [ho, hx, hy, Instr.storeAt, storeVar, Instr.sureAddr, sizeOf_run hi, hsz, hcs, hv, hst, Result.andThen]
 exact h _ (hb.setRow cs).1 ((Fr.refl w _).grown (hb.setRow cs).2 fun k hk _ => by cases hk; rfl)
end Go.Proofs.YtgpekgnhbccnoaaGreat
