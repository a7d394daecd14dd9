/-
  Rows of integers and of bools, and queues, as things that lie apart; what a range over a function does besides turns none of them.
  No condition.
-/
import Derived.Test.YtkeiphmhckkniaaLies
import Derived.Test.YtkeiphmhckkniaaWtQueue
import Derived.Test.YtkeiphmhckkniaaOwnB
import Derived.Test.YtkeiphmhckkniaaWtIter
namespace Go.Proofs.Ytkeiphmhckkniaa
open Go Go.RowKit

def owT (v : Value) (l : List Int) : Thing where
  At w S := OwnInts w 3 v l ∧ ∀ k, S k ↔ v.ownBlock = some k
  fr h hf hd := ⟨h.1.fr hf fun k hk => hd k ((h.2 k).2 hk), h.2⟩
  lt h k hk := h.1.lt k ((h.2 k).1 hk)
def boT (b n : Nat) (l : List Bool) : Thing where
  At w S := OwnBools w b n n l ∧ ∀ k, S k ↔ k = b
  fr h hf hd := ⟨hf.own h.1 fun k hk => hd k ((h.2 k).2 (by cases hk; rfl)), h.2⟩
  lt h k hk := (World.ownsRow.lt h.1 k (by rw [(h.2 k).1 hk]; rfl)).2
def quT (v : Value) (l : List Int) : Thing where
  At w S := QAt w v l ∧ ∀ k, S k ↔ v.ownBlock = some k
  fr h hf hd := ⟨h.1.fr hf fun k hk => hd k ((h.2 k).2 hk), h.2⟩
  lt h k hk := h.1.lt k ((h.2 k).1 hk)
/-- It is of cells alone. -/
def CellsT (x : Thing) : Prop := ∀ (w : World) (S : Nat → Prop), x.At w S → ∀ k, S k → ∃ c e f, w.heap[k]? = some (.cells c e f)
theorem cellsRow {w : World} {e : TypeId} {n size : Nat} {v : Value} {cs : List Value} (h : w.ownsRow 0 e size v n cs) {k : Nat} (hk : v.ownBlock = some k) : ∃ c e f, w.heap[k]? = some (.cells c e f) := by
  rcases h.2 with ⟨rfl, _⟩ | ⟨g, cap, cur, rfl, _, hg, _⟩
  · cases hk
  · cases hk; exact ⟨_, _, _, hg⟩
theorem cells_ow (v : Value) (l : List Int) : CellsT (owT v l) := fun _ _ h k hk => cellsRow h.1 ((h.2 k).1 hk)
theorem cells_bo (b n : Nat) (l : List Bool) : CellsT (boT b n l) := fun _ _ h k hk => cellsRow h.1 (by rw [(h.2 k).1 hk]; rfl)
theorem cells_bk (b : Nat) (e : TypeId) (cs : List Value) : CellsT (bkT b e cs) := fun _ _ h k hk => by rw [(h.2 k).1 hk]; exact ⟨_, _, _, h.1⟩
theorem cells_qu (v : Value) (l : List Int) : CellsT (quT v l) := fun _ _ h k hk => by
  obtain ⟨b, off, cap, cur, rfl, h1, _⟩ := h.1
  have := (h.2 k).1 hk
  cases this
  exact ⟨_, _, _, h1⟩
/-- What is no row of cells may turn. -/
theorem Lies.turn {w0 W W' : World} {l : List Thing} {row : Option Nat} (h : Lies w0 W l) (hc : ∀ x ∈ l, CellsT x) (hg : W.grownBy W' row) (hr : ∀ r, row = some r → w0.heap.size ≤ r ∧ ∃ o : Obj, W.heap[r]? = some o ∧ o.isCells = false) : Lies w0 W' l := by
  obtain ⟨h1, F, h2, h3⟩ := h
  have hf : Fr W W' (fun k => row = some k) := (Fr.refl W _).grown hg fun k hk _ => hk
  refine ⟨h1.grown hg fun k hk hlt => by have := (hr k hk).1; omega, F, fun i x hx => ⟨x.fr (h2 i x hx).1 hf fun k hk e => ?_, (h2 i x hx).2⟩, h3⟩
  obtain ⟨c, e2, f, hk2⟩ := hc x (List.mem_of_getElem? hx) W (F i) (h2 i x hx).1 k hk
  obtain ⟨_, o, ho, hn⟩ := hr k e
  rw [hk2] at ho
  cases ho
  cases hn
theorem Lies.row {w0 W : World} {l : List Thing} {v : Value} {xs : List Int} (h : Lies w0 W l) (i : Nat) (hi : l[i]? = some (owT v xs)) : OwnInts W 3 v xs := by
  obtain ⟨S, h1, _⟩ := h.get i _ hi
  exact h1.1
theorem Lies.bools {w0 W : World} {l : List Thing} {b n : Nat} {xs : List Bool} (h : Lies w0 W l) (i : Nat) (hi : l[i]? = some (boT b n xs)) : OwnBools W b n n xs := by
  obtain ⟨S, h1, _⟩ := h.get i _ hi
  exact h1.1
theorem Lies.queue {w0 W : World} {l : List Thing} {v : Value} {xs : List Int} (h : Lies w0 W l) (i : Nat) (hi : l[i]? = some (quT v xs)) : QAt W v xs := by
  obtain ⟨S, h1, _⟩ := h.get i _ hi
  exact h1.1
/-- A cell of a block is stored. -/
theorem Lies.stored {w0 W : World} {l : List Thing} {b : Nat} {e : TypeId} {cs : List Value} (h : Lies w0 W l) (i : Nat) (hi : l[i]? = some (bkT b e cs)) (j : Nat) (u : Value) : Lies w0 (W.setCell ⟨b, j, none⟩ u) (l.set i (bkT b e (cs.set j u))) := by
  obtain ⟨S, h1, _, h2⟩ := h.get i _ hi
  exact h2 _ S (bkT b e (cs.set j u)) ⟨h1.1.set j u, h1.2⟩ (fun k hk => .inl hk) ((Fr.store W b j u).mono fun k _ hk => (h1.2 k).2 hk)
/-- A bool is stored. -/
theorem Lies.storedB {w0 W : World} {l : List Thing} {b n : Nat} {xs : List Bool} (h : Lies w0 W l) (i : Nat) (hi : l[i]? = some (boT b n xs)) (j : Nat) (u : Bool) : Lies w0 (W.setCell ⟨b, j, none⟩ (.bool u)) (l.set i (boT b n (xs.set j u))) := by
  obtain ⟨S, h1, _, h2⟩ := h.get i _ hi
  exact h2 _ S (boT b n (xs.set j u)) ⟨h1.1.set j u, h1.2⟩ (fun k hk => .inl hk) ((Fr.store W b j (.bool u)).mono fun k _ hk => (h1.2 k).2 hk)
end Go.Proofs.Ytkeiphmhckkniaa
