/-
 Regions that draw their order: all operations but the last ones read, or call what lays new blocks alone: walked once, in the order of the text; the last ones come one behind the other.
 No condition.
-/
import Derived.Test.YtgpekgnhbccnoaaGreatPkY1
import Derived.StillTail
import Derived.Deep.Quiet
import Derived.Deep.QuietTactic
import Derived.BigQuiet
import Derived.Sort.Grow
namespace Go.Proofs.YtgpekgnhbccnoaaGreat
open Go

/-- A world that has come of w0 by new blocks alone: for regions that are held. -/
def KeptF (w0 w : World) : Prop := Fr w0 w Nil
theorem KeptF.start (w : World) : KeptF w w.drew := (Fr.refl w Nil).drew
theorem KeptF.fr {w0 w : World} (h : KeptF w0 w) : Fr w0 w Nil := h
theorem KeptF.next {w0 w w' : World} (h : KeptF w0 w) (hf : Fr w w' Nil) : KeptF w0 w' := Fr.trans0 h hf
theorem KeptF.cell {w0 : World} {a : Addr} {v : Value} (h : w0.cell? a = some v) : ∀ w, KeptF w0 w → w.cell? a = some v := fun _ hf => Fr.cell hf h fun h => h
section
variable {P : Program} {md : Region.Mode} {ops : Array Oper} {C : World → Prop}
end
end Go.Proofs.YtgpekgnhbccnoaaGreat
