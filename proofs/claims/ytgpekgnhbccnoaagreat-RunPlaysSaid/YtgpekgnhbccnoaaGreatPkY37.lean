/-
 Walk of same (interlocklaw14): rows that are the model's.
 Walk of tells (interlocklaw14): the log tells what the document's does; what is told is spoilt.
 The document's log and rows as things that lie apart.
-/
import Derived.Test.YtgpekgnhbccnoaaGreatPkY26
import Derived.Test.YtgpekgnhbccnoaaGreatPkY24
import Derived.Test.YtgpekgnhbccnoaaGreatPkY15
import Derived.Test.YtgpekgnhbccnoaaGreatPkY19
import Derived.Test.YtgpekgnhbccnoaaGreatPkY25
import Derived.BigRegion
import Derived.Test.YtgpekgnhbccnoaaGreatPkY2
import Derived.Test.YtgpekgnhbccnoaaGreatPkY4
import Derived.Test.YtgpekgnhbccnoaaGreatPkY14
namespace Go.Proofs.YtgpekgnhbccnoaaGreat
open Go Go.RowKit

end Go.Proofs.YtgpekgnhbccnoaaGreat
namespace Go.Proofs.YtgpekgnhbccnoaaGreat
open Go Go.RowKit

end Go.Proofs.YtgpekgnhbccnoaaGreat
namespace Go.Proofs.YtgpekgnhbccnoaaGreat
open Go Go.RowKit

theorem DHas.lt' {w : World} {lb : Nat} {most : Int} {lv : Value} {g : List DEnt} (h : DLogG w lb most lv g) {k : Nat} (hk : DHas lb lv g k) : k < w.heap.size := by
 rcases hk with rfl | hk | ⟨e, he, hk⟩
 ·exact h.root.lt
 ·exact (World.ownsRow.lt h.own k hk).2
 ·exact (h.ok e he).own.lt k hk
theorem DUpd.at {w w' : World} {lb : Nat} {most : Int} {lv : Value} {g : List DEnt} {L' : List (Int × Ent)} {S : Nat → Prop} (h : DUpd w lb most lv g L' w') (hS : ∀ k, DHas lb lv g k → S k) (hlt : ∀ k, S k → k < w.heap.size) :
  DLogAt w' lb most L' (Gr S w w') ∧ Fr w w' S := by
 obtain ⟨lv', g', h1, h2, h3, h4⟩ := h
 have hsz := h4.size
 refine ⟨⟨lv', g', h1, h2, fun k hk => ?_, fun k hk => hk.elim (fun h => by have := hlt k h; omega) (·.2)⟩, h4.mono fun k _ hk => ?_⟩
 ·rcases h3 k hk with h | h
  ·exact .inl (hS k h)
  ·exact .inr ⟨h, DHas.lt' h1 hk⟩
 ·exact hS k (hk.elim .inl fun h => .inr (.inl h))
section
variable {w0 W : World} {l : List Thing}
theorem st_dnew (h : Lies w0 W l) (most : Int) : Calls Tryz.prog 13 #[.int .i64 most] W (StNew w0 l fun b => dlogT b (max 0 most) []) :=
 (dnew_any most W).mono fun _ W' ⟨b, he, hr, hb, hs, hf⟩ => ⟨b, he, h.add (dlogT b (max 0 most) []) (S := fun k => k = b) ⟨_, _, hr, rfl, (fun k hk => by
  rcases hk with rfl | hk | ⟨e, he, _⟩
  ·rfl
  ·cases hk
  ·cases he), fun k hk => by subst hk; omega⟩ (fun k hk => by subst hk; omega) hf⟩
end
end Go.Proofs.YtgpekgnhbccnoaaGreat
