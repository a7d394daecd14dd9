/-
  A row of known cells that is written over: the world behind it under one name.
  No condition.
-/
import Derived.Test.YtplebgcgoigigaaMem
namespace Go.Proofs.Ytplebgcgoigigaa
open Go Go.RowKit
section
variable {P : World → Prop} {w : World} {b : Nat} {e : TypeId}
theorem set1_world {a0 b0 : Value} (h : Bk w b e [a0]) (hP : ∀ w', Bk w' b e [b0] → Fr w w' (fun k => k = b) → P w') : P (w.setCell ⟨b, 0, none⟩ b0) := by
  refine hP _ (h.set 0 b0) ?_
  iterate 1 refine Fr.setCell (S := fun k => k = b) (p := ⟨b, _, none⟩) ?_ (fun _ => rfl) _
  exact Fr.refl w _
theorem set2_world {a0 a1 b0 b1 : Value} (h : Bk w b e [a0, a1]) (hP : ∀ w', Bk w' b e [b0, b1] → Fr w w' (fun k => k = b) → P w') : P ((w.setCell ⟨b, 0, none⟩ b0).setCell ⟨b, 1, none⟩ b1) := by
  refine hP _ ((h.set 0 b0).set 1 b1) ?_
  iterate 2 refine Fr.setCell (S := fun k => k = b) (p := ⟨b, _, none⟩) ?_ (fun _ => rfl) _
  exact Fr.refl w _
theorem set3_world {a0 a1 a2 b0 b1 b2 : Value} (h : Bk w b e [a0, a1, a2]) (hP : ∀ w', Bk w' b e [b0, b1, b2] → Fr w w' (fun k => k = b) → P w') : P (((w.setCell ⟨b, 0, none⟩ b0).setCell ⟨b, 1, none⟩ b1).setCell ⟨b, 2, none⟩ b2) := by
  refine hP _ (((h.set 0 b0).set 1 b1).set 2 b2) ?_
  iterate 3 refine Fr.setCell (S := fun k => k = b) (p := ⟨b, _, none⟩) ?_ (fun _ => rfl) _
  exact Fr.refl w _
theorem set4_world {a0 a1 a2 a3 b0 b1 b2 b3 : Value} (h : Bk w b e [a0, a1, a2, a3]) (hP : ∀ w', Bk w' b e [b0, b1, b2, b3] → Fr w w' (fun k => k = b) → P w') : P ((((w.setCell ⟨b, 0, none⟩ b0).setCell ⟨b, 1, none⟩ b1).setCell ⟨b, 2, none⟩ b2).setCell ⟨b, 3, none⟩ b3) := by
  refine hP _ ((((h.set 0 b0).set 1 b1).set 2 b2).set 3 b3) ?_
  iterate 4 refine Fr.setCell (S := fun k => k = b) (p := ⟨b, _, none⟩) ?_ (fun _ => rfl) _
  exact Fr.refl w _
theorem set5_world {a0 a1 a2 a3 a4 b0 b1 b2 b3 b4 : Value} (h : Bk w b e [a0, a1, a2, a3, a4]) (hP : ∀ w', Bk w' b e [b0, b1, b2, b3, b4] → Fr w w' (fun k => k = b) → P w') : P (((((w.setCell ⟨b, 0, none⟩ b0).setCell ⟨b, 1, none⟩ b1).setCell ⟨b, 2, none⟩ b2).setCell ⟨b, 3, none⟩ b3).setCell ⟨b, 4, none⟩ b4) := by
  refine hP _ (((((h.set 0 b0).set 1 b1).set 2 b2).set 3 b3).set 4 b4) ?_
  iterate 5 refine Fr.setCell (S := fun k => k = b) (p := ⟨b, _, none⟩) ?_ (fun _ => rfl) _
  exact Fr.refl w _
theorem set6_world {a0 a1 a2 a3 a4 a5 b0 b1 b2 b3 b4 b5 : Value} (h : Bk w b e [a0, a1, a2, a3, a4, a5]) (hP : ∀ w', Bk w' b e [b0, b1, b2, b3, b4, b5] → Fr w w' (fun k => k = b) → P w') : P ((((((w.setCell ⟨b, 0, none⟩ b0).setCell ⟨b, 1, none⟩ b1).setCell ⟨b, 2, none⟩ b2).setCell ⟨b, 3, none⟩ b3).setCell ⟨b, 4, none⟩ b4).setCell ⟨b, 5, none⟩ b5) := by
  refine hP _ ((((((h.set 0 b0).set 1 b1).set 2 b2).set 3 b3).set 4 b4).set 5 b5) ?_
  iterate 6 refine Fr.setCell (S := fun k => k = b) (p := ⟨b, _, none⟩) ?_ (fun _ => rfl) _
  exact Fr.refl w _
end
end Go.Proofs.Ytplebgcgoigigaa
