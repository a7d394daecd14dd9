/-
 What follows in a list of operations where nothing but moves, picks and what its guard passes over is left: run at once, checked by evaluation.
 No condition.
-/
import Derived.Tactics2
namespace Go.Proofs.YtgpekgnhbccnoaaGreat
open Go

def stepPure (ops : Array Oper) (o : Oper) (a : Act) : Option Act :=
 match Region.wanted o (yielded ops a.tmps) with
 | false => some (a.put o.dst undef)
 | true => match o.op with
  | .move x => some (a.put o.dst (a.eval x))
  | .assign x => some (a.put o.dst (a.eval x))
  | .pick c x y => match a.eval c with
   | .bool true => some (a.put o.dst (a.eval x))
   | .bool false => some (a.put o.dst (a.eval y))
   | _ => none
  | _ => none
def runPure (ops : Array Oper) : List Oper → Act → Option Act
 | [], a => some a
 | o :: rest, a => match stepPure ops o a with
  | some a' => runPure ops rest a'
  | none => none
section
variable {P : Program} {ops : Array Oper} {Q : Exit → Act → World → Prop} {w : World}
theorem wpList_val {o : Oper} {rest : List Oper} {a : Act} {v : Value} (hw : Region.wanted o (yielded ops a.tmps) = true) (hr : (execOp a.eval o).run P w = .ok (.value v) w) (h : wpList P ops Q rest (a.put o.dst v) w) : wpList P ops Q (o :: rest) a w := by
 refine wpList_step fun K hK => ?_
 rw [if_pos hw]
 unfold Oper.wp
 rw [hr]
 exact hK _ _ h
theorem wpList_stepPure {o : Oper} {rest : List Oper} {a a' : Act} (hs : stepPure ops o a = some a') (h : wpList P ops Q rest a' w) : wpList P ops Q (o :: rest) a w := by
 unfold stepPure at hs
 cases hw : Region.wanted o (yielded ops a.tmps) with
 | false =>
  rw [hw] at hs
  simp only [Option.some.injEq] at hs
  subst hs
  exact wpList_step fun K hK => by rw [if_neg (by rw [hw]; decide)]; exact hK _ _ h
 | true =>
  rw [hw] at hs
  simp only at hs
  split at hs
  ·rename_i x e
   simp only [Option.some.injEq] at hs
   subst hs
   exact wpList_val hw (by unfold execOp; rw [e]; rfl) h
  ·rename_i x e
   simp only [Option.some.injEq] at hs
   subst hs
   exact wpList_val hw (by unfold execOp; rw [e]; rfl) h
  ·rename_i c x y e
   split at hs
   ·rename_i e2
    simp only [Option.some.injEq] at hs
    subst hs
    exact wpList_val hw (by unfold execOp; rw [e]; simp [asBool, e2]) h
   ·rename_i e2
    simp only [Option.some.injEq] at hs
    subst hs
    exact wpList_val hw (by unfold execOp; rw [e]; simp [asBool, e2]) h
   ·cases hs
  ·cases hs
theorem wpList_pure : ∀ {rest : List Oper} {a a' : Act}, runPure ops rest a = some a' → Q .normal a' w → wpList P ops Q rest a w
 | [], _, _, hr, h => by cases hr; exact h
 | o :: rest, a, a', hr, h => by
  unfold runPure at hr
  split at hr
  ·rename_i a2 e
   exact wpList_stepPure e (wpList_pure hr h)
  ·cases hr
/-- .. of which only one slot is looked at behind it. -/
theorem wpList_tail {rest : List Oper} {a : Act} {n : Nat} {v : Value} (hr : (runPure ops rest a).map (fun a' => (a'.tmps.getD n undef, a'.defers)) = some (v, a.defers)) (h : ∀ a' : Act, a'.tmps.getD n undef = v → a'.defers = a.defers → Q .normal a' w) : wpList P ops Q rest a w := by
 cases e : runPure ops rest a with
 | none => rw [e] at hr; cases hr
 | some a' =>
  rw [e] at hr
  simp only [Option.map_some, Option.some.injEq, Prod.mk.injEq] at hr
  exact wpList_pure e (h a' hr.1 hr.2)
end
end Go.Proofs.YtgpekgnhbccnoaaGreat
