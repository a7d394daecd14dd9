/-
  Rows of bools of the call's own.
  No condition.
-/
import Derived.Test.YtkeiphmhckkniaaHsMem
import Derived.Test.YtkeiphmhckkniaaHsNextP
namespace Go.Proofs.Ytkeiphmhckkniaa
open Go Go.RowKit

/-- A row of bools of the call's own. -/
def OwnBools (w : World) (b n cap : Nat) (l : List Bool) : Prop := w.ownsRow 0 4 1 (.slice (some ⟨b, 0, none⟩) n cap) n (l.map Value.bool)
theorem OwnBools.cell {w : World} {b n cap : Nat} {l : List Bool} (h : OwnBools w b n cap l) (hl : l.length = n) (j : Nat) (hj : j < n) : w.cell? ⟨b, j, none⟩ = some (.bool (l.getD j false)) := by
  rw [World.ownsRow.cellAt h j (by omega)]
  simp [show j < l.length by omega]
theorem OwnBools.free {w : World} {b n cap : Nat} {l : List Bool} (h : OwnBools w b n cap l) (j : Nat) : w.frozen? ⟨b, j, none⟩ = false := World.ownsRow.frozenAt h j
theorem OwnBools.set {w : World} {b n cap : Nat} {l : List Bool} (h : OwnBools w b n cap l) (j : Nat) (u : Bool) : OwnBools (w.setCell ⟨b, j, none⟩ (.bool u)) b n cap (l.set j u) := by
  have := (World.ownsRow.stored h j (.bool u)).1
  unfold OwnBools
  rwa [List.map_set]
theorem OwnBools.fr0 {w w' : World} {b n cap : Nat} {l : List Bool} (h : OwnBools w b n cap l) (hf : Fr w w' Nil) : OwnBools w' b n cap l := hf.own h fun _ _ h => h
theorem OwnBools.at {w : World} {b n cap : Nat} {l : List Bool} (h : OwnBools w b n cap l) (hl : l.length = n) : BoolsAt w (.slice (some ⟨b, 0, none⟩) n cap) l := by
  unfold BoolsAt
  rw [hl]
  exact (SlAt.of_own h).1

theorem bools_form {w : World} {v : Value} {n : Nat} {l : List Value} (h : w.ownsRow 0 4 1 v n l) (hn : 0 < n) : ∃ b cap, v = .slice (some ⟨b, 0, none⟩) n cap ∧ n ≤ cap := by
  rcases h.2 with ⟨_, h0⟩ | ⟨g, cap, cur, hv, _, _, hc, _⟩
  · omega
  · exact ⟨g, cap, hv, hc⟩
theorem own_made {w w1 : World} {n : Nat} (h : w1.ownsRow 0 4 1 (.slice (some ⟨w.heap.size, 0, none⟩) n n) n (madeCells (Value.bool false).cells (n * 1)).toList) : OwnBools w1 w.heap.size n n (thOf n []) := by
  unfold OwnBools
  have e : (madeCells (Value.bool false).cells (n * 1)).toList = (thOf n []).map Value.bool := by
    rw [thOf_nil, Nat.mul_one, List.map_replicate]
    exact toList_madeCells_one _ _
  rw [← e]; exact h
end Go.Proofs.Ytkeiphmhckkniaa
