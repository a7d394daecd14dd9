/-
  What the laws over rows of calls share.
  No condition.
-/
import Derived.Test.YtokeciekncincabGreatPkC28
import Derived.Test.YtokeciekncincabGreatPkC1
import Derived.Test.YtokeciekncincabGreatPkC30
namespace Go.Proofs.YtokeciekncincabGreat
open Go Go.RowKit Go.Maps

/-- Behind B, and not k0. -/
def AtA (B k0 k : Nat) : Prop := B ≤ k ∧ k ≠ k0
theorem ata_low {B k0 : Nat} : ∀ k, AtA B k0 k → Low B k := fun _ h => h.1
theorem low_back {w w1 w2 : World} {A : Nat → Prop} (h : Fr w w1 Nil) (hf : Fr w1 w2 A) (hA : ∀ k, A k → w.heap.size ≤ k) : Fr w w2 Nil := h.trans hf fun k hk h2 => by have := hA k h2; omega
/-- Whose calls these are. -/
def whos (l : List CallK) : List Int := l.map CallK.who
theorem who_in {l : List CallK} {i : Nat} {t : CallK} (h : l[i]? = some t) : t.who ∈ whos l := List.mem_map.2 ⟨t, List.mem_iff_getElem?.2 ⟨i, h⟩, rfl⟩
end Go.Proofs.YtokeciekncincabGreat
