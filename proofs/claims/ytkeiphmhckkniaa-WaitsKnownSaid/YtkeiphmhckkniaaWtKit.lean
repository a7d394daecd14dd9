/-
  Small laws for the walks of waits.
  No condition but sizes.
-/
import Derived.Test.YtkeiphmhckkniaaWtRows
namespace Go.Proofs.Ytkeiphmhckkniaa
open Go Go.RowKit

/-- A literal row of integers. -/
theorem Lies.lit {w0 W : World} {l : List Thing} (h : Lies w0 W l) (cs : Array Value) (n : Nat) (xs : List Int) (hc : cs.toList = xs.map (Value.int .i64)) (hn : xs.length = n) (hm : n ≤ 1000000) :
    Lies w0 (W.alloc (.cells cs 3)) (l ++ [owT (.slice (some ⟨W.heap.size, 0, none⟩) n n) xs]) := by
  have hs : cs.size = n * 1 := by rw [← Array.length_toList, hc, List.length_map, hn, Nat.mul_one]
  refine h.add _ (S := fun k => k = W.heap.size) ⟨?_, fun k => ⟨fun e => by rw [e]; rfl, fun e => by cases e; rfl⟩⟩ (fun k hk => by omega) ((Fr.refl W Nil).alloc _)
  have := World.ownsRow_lit (base := 0) (e := 3) (size := 1) W cs n (Nat.zero_le _) (by unfold maxLen; omega) hs
  unfold OwnInts
  rw [← hc, hn]
  exact this
theorem LK.lit {w0 W0 W : World} {B : Nat} {l : List Thing} (h : LK w0 B W0 W l) (cs : Array Value) (n : Nat) (xs : List Int) (hc : cs.toList = xs.map (Value.int .i64)) (hn : xs.length = n) (hm : n ≤ 1000000) :
    LK w0 B W0 (W.alloc (.cells cs 3)) (l ++ [owT (.slice (some ⟨W.heap.size, 0, none⟩) n n) xs]) :=
  ⟨h.1.lit cs n xs hc hn hm, h.2.trans (keeps_fr ((Fr.refl W Nil).alloc _) (fun _ hk => hk.elim) B)⟩
/-- A row of integers that is handed over is one of the call's own. -/
theorem Lies.addRow {w0 W W' : World} {l : List Thing} {v : Value} {xs : List Int} (h : Lies w0 W l) (ho : OwnInts W' 3 v xs) (hn : NewFrom W.heap.size v) (hf : Fr W W' Nil) : Lies w0 W' (l ++ [owT v xs]) :=
  h.add (owT v xs) (S := fun k => v.ownBlock = some k) ⟨ho, fun _ => Iff.rfl⟩ hn hf
theorem Lies.begin (w : World) : Lies w w [marksT []] := (Lies.nil (Fr.refl w Nil)).add (marksT []) (S := fun _ => False) ⟨⟨List.Pairwise.nil, fun D hD => by cases hD⟩, fun k => ⟨fun h => h.elim, fun h => by cases h⟩⟩ (fun k hk => hk.elim) (Fr.refl w Nil)
end Go.Proofs.Ytkeiphmhckkniaa
