/-
  slices.Sort of integers that the call owns: the row sorted, in place.
  No condition but sizes.
-/
import Derived.Test.YtokeciekncincabGreatPkC1
import Derived.Test.YtokeciekncincabGreatHsShelf
import Derived.Sort.OwnSortedInts
namespace Go.Proofs.YtokeciekncincabGreat
open Go Go.RowKit Go.Sort

def sortZ (xs : List Int) : List Int := xs.mergeSort fun x y => decide (x ≤ y)
theorem sortZ_perm (xs : List Int) : (sortZ xs).Perm xs := List.mergeSort_perm _ _
theorem sortZ_len (xs : List Int) : (sortZ xs).length = xs.length := (sortZ_perm xs).length_eq
theorem sortZ_sorted (xs : List Int) : (sortZ xs).Pairwise (· ≤ ·) := by
  have := List.pairwise_mergeSort (le := fun x y : Int => decide (x ≤ y)) (fun a b c => by simp; omega) (fun a b => by simp; omega) xs
  simpa [sortZ] using this

def SortRet (e : TypeId) (v : Value) (xs : List Int) (w : World) (en : Ending) (w' : World) : Prop :=
  en = .returned (.tuple #[]) ∧ OwnInts w' e v (sortZ xs) ∧ Fr w w' (fun k => v.ownBlock = some k)
theorem sort_of {e : TypeId} {w w' : World} {g cap : Nat} {xs : List Int} (h : OwnInts w e (.slice (some ⟨g, 0, none⟩) xs.length cap) xs) (hw : ∃ n os, w' = grow (putRow (Value.int .i64) (Sort.ahead w n) g 0 (xs.mergeSort fun x y => decide (x ≤ y)).toArray) os) :
    OwnInts w' e (.slice (some ⟨g, 0, none⟩) xs.length cap) (sortZ xs) ∧ Fr w w' (fun k => (Value.slice (some ⟨g, 0, none⟩) xs.length cap).ownBlock = some k) := by
  obtain ⟨n, os, rfl⟩ := hw
  rcases h.2 with ⟨h1, _⟩ | ⟨g', cap', cur, h1, hb, hg, h2, h3, h4, h5⟩
  · cases h1
  cases h1
  refine ⟨?_, ?_⟩
  · have := ownsRow_sortedI (w := w) (base := 0) (g := g) (cap := cap) (n := n) (e := e) (os := os) (cur := cur) (ss := xs) (ts := sortZ xs) (sortZ_len xs) hb hg h2 h3 h4
    unfold OwnInts
    rw [sortZ_len]
    exact this
  · exact (Fr.refl w _).grown (grownBy_sortedI _) fun k hk _ => by simpa [Value.ownBlock] using hk
theorem holds_of {e : TypeId} {w : World} {g cap : Nat} {xs : List Int} (h : OwnInts w e (.slice (some ⟨g, 0, none⟩) xs.length cap) xs) : Holds (Value.int .i64) w g 0 xs.toArray ∧ g < w.heap.size := by
  rcases h.2 with ⟨h1, _⟩ | ⟨g', cap', cur, h1, hb, hg, h2, h3, h4, h5⟩
  · cases h1
  cases h1
  exact ⟨holds_of_blockI hg (by simpa using h5), lt_of_block hg⟩

theorem sort_i64 (v : Value) (xs : List Int) (w : World) (h : OwnInts w 2 v xs) (hl : xs.length ≤ 1000000) : Calls Tryz.prog 56 #[v] w (SortRet 2 v xs w) := by
  rcases h.2 with ⟨rfl, hn⟩ | ⟨g, cap, cur, rfl, _⟩
  · obtain rfl : xs = [] := List.eq_nil_of_length_eq_zero hn
    refine (AnyG.slices_Sort_int_none Tryz.laysSortI64 none 0 w).mono ?_
    rintro e w' ⟨rfl, rfl⟩
    exact ⟨rfl, by unfold sortZ; simpa using h, Fr.refl _ _⟩
  · refine (AnyG.slices_Sort_int Tryz.laysSortI64 g 0 cap xs w (holds_of h).1 (holds_of h).2 (by omega)).mono ?_
    rintro e w' ⟨rfl, hw⟩
    have := sort_of h hw
    exact ⟨rfl, this.1, this.2⟩
end Go.Proofs.YtokeciekncincabGreat
