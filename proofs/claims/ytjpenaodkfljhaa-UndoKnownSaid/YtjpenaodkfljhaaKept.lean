/-
  Worlds that have come of another by new blocks and draws alone: for regions with a sink.
  No condition.
-/
import Derived.Test.YtjpenaodkfljhaaMem
namespace Go.Proofs.Ytjpenaodkfljhaa
open Go

def KeptN (w0 w : World) : Prop := Fr w0 w Nil
theorem KeptN.start (w : World) : KeptN w w.drew := (Fr.refl w Nil).drew
theorem KeptN.cell {w0 : World} {a : Addr} {v : Value} (h : w0.cell? a = some v) : ∀ w, KeptN w0 w → w.cell? a = some v := fun _ hf => Fr.cell hf h fun h => h

theorem KeptN.fr {w0 w : World} (h : KeptN w0 w) : Fr w0 w Nil := h
theorem KeptN.next {w0 w w' : World} (h : KeptN w0 w) (hf : Fr w w' Nil) : KeptN w0 w' := Fr.trans0 h hf
/-- .. and the blocks of R. -/
def KeptR (R : Nat → Prop) (w0 w : World) : Prop := Fr w0 w R
theorem KeptN.weak {w0 w : World} (R : Nat → Prop) (h : KeptN w0 w) : KeptR R w0 w := Fr.of_nil h
theorem KeptR.cell {R : Nat → Prop} {w0 : World} {a : Addr} {v : Value} (h : w0.cell? a = some v) (hn : ¬ R a.block) : ∀ w, KeptR R w0 w → w.cell? a = some v := fun _ hf => Fr.cell hf h hn
end Go.Proofs.Ytjpenaodkfljhaa
