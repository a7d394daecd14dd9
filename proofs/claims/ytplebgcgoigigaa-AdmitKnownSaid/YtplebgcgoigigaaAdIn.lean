/-
  Walk of In: who is in, rising.
  No condition but sizes.
-/
import Derived.Test.YtplebgcgoigigaaAdGate2
import Derived.Test.YtplebgcgoigigaaKeysShelf
import Derived.Shelf.AbstractIn
import Derived.OwnWalkIn
import Derived.TacticsInMore
namespace Go.Proofs.Ytplebgcgoigigaa
open Go Go.RowKit Go.Maps Go.Sort Go.Shelf

def keysOf (M : List (Int × Nd)) : List Int := (M.map Prod.fst).mergeSort (fun x y => decide (x ≤ y))
theorem keysOf_perm (M : List (Int × Nd)) : (keysOf M).Perm (M.map Prod.fst) := List.mergeSort_perm _ _
theorem keysOf_len (M : List (Int × Nd)) : (keysOf M).length = M.length := by rw [(keysOf_perm M).length_eq, List.length_map]
theorem keys_perm {D : DataW Value} {M : List (Int × Nd)} (h : MapIs ikey encN D M) : (intKeys D).Perm (M.map Prod.fst) := by
  obtain ⟨E, rfl, h1, _⟩ := h
  have h2 := h1.map (fun p : Lit × DataW Value => Go.intOf p.1)
  rw [List.map_map] at h2
  exact h2
theorem Try.sortsG (m : Nat) : AnyZI.SortsIn Try.prog Try.sortedG_ren Fence.wide m :=
  ⟨fun blk off cap ss W hH hblk hsz => callsIn_wide.2 (AnyM.slices_Sort_int Try.sortG blk off cap ss W hH hblk hsz),
   fun p cap W => callsIn_wide.2 (AnyM.slices_Sort_int_none Try.sortG p cap W)⟩

set_option maxRecDepth 100000 in
set_option maxHeartbeats 1000000 in
theorem in_any (gb bm : Nat) (c : CapD) (M : List (Int × Nd)) (w : World) (h : GateAt w gb bm c M) (hl : M.length ≤ 1000000) :
    Calls Try.prog 12 #[.pointer (some ⟨gb, 0, none⟩)] w fun e w' => ∃ v, e = .returned v ∧ OwnInts w' 2 v (keysOf M) ∧ NewFrom w.heap.size v ∧ Fr w w' Nil := by
  obtain ⟨hb, D, hown, hD⟩ := h
  have q3 := hb.cell 3
  have hkp := keys_perm hD
  have hsz := hD.size
  refine (callsIn_wide (n := 6)).1 ?_
  have hbl := hown.lt
  have hseq : SeqGives Fence.wide 2 Try.prog 37 #[.pointer (some ⟨w.heap.size, 0, none⟩)] encZ (fun ss => ss.Perm (intKeys D)) (Maps.size D) (w.alloc (.cells #[.map (some bm)] 54)) :=
    AnyZI.keys_gives (ρ := Try.keysG_ren) { Try.keysG with } Fence.wide _ trivial rfl (by omega) w.heap.size bm _ D _ (by simp) (by simp) (by
      obtain ⟨es, clock, hb, Ft, hs, hD⟩ := hown
      exact ⟨es, clock, (Below.heap_alloc _ _ bm hbl).trans hb, Ft, hs, hD⟩)
  have cK : ∀ mb W, CallsIn Fence.wide 5 Try.prog 22 #[.map mb] W fun e w' => e = .returned (.func (.func 37) #[] #[.pointer (some ⟨W.heap.size, 0, none⟩)]) ∧ w' = W.alloc (.cells #[.map mb] 54) := fun mb W => AnyZI.keys_in Try.keysG Fence.wide 5 trivial rfl mb W
  have cS := AnyZI.sorted_in Try.sortedG Fence.wide 5 trivial trivial trivial trivial rfl (by omega) (Try.sortsG _) (enters_of Try.func36 (by kernel_rfl) rfl) 37 #[.pointer (some ⟨w.heap.size, 0, none⟩)] trivial (enters_of Try.func37 (by kernel_rfl) rfl) _ _ (by rw [hsz]; unfold maxLen; omega) (by rw [hsz]; omega) _ hseq
  change CallsIn _ _ Try.prog 21 _ _ _ at cS
  have hfK : Fence.wide.fn 22 := trivial
  have hfS : Fence.wide.fn 21 := trivial
  have HKP := Lib.hid hkp
  clear hkp hsz hb hown hD hseq hbl
  refine callsIn_of_wp Try.func12 rfl trivial ?_ rfl
  simp only [Try.ntmps12, List.size_toArray, List.length_cons, List.length_nil, Nat.reduceAdd, Nat.reduceSub, Array.replicate_succ, Array.replicate_zero, List.push_toArray, List.append_toArray, List.nil_append, List.cons_append]
  gi_wp2_with (first
    | (gi_at_call 22; refine (cK _ _).mono ?_; rintro e w' ⟨rfl, rfl⟩)
    | (gi_at_call 21; refine cS.mono ?_; rintro e w' ⟨v, ss, rfl, hS, hrow, hnil, hb⟩))
  go_ret
  have hks : ss.mergeSort (fun x y => decide (x ≤ y)) = keysOf M := mergeSort_of_perm_i (hS.trans HKP.out)
  have hlen : ss.length = (keysOf M).length := by rw [← hks, List.length_mergeSort]
  rw [hks, hlen] at hrow
  refine ⟨v, rfl, own_mono hrow (Nat.zero_le _), fun k hk => ?_, ?_⟩
  · have := (World.ownsRow.lt hrow k hk).1
    simp at this
    omega
  · have h2 : Fr (w.alloc (.cells #[.map (some bm)] 54)) w' Nil := ⟨hb.os, hb.tape, hb.output, hb.size, fun k hk _ => hb.block k hk⟩
    exact ((Fr.refl w Nil).alloc _).trans0 h2
end Go.Proofs.Ytplebgcgoigigaa
