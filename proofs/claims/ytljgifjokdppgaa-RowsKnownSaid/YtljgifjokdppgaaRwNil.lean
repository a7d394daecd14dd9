/-
  Walks of the methods of *rows.Rows on a nil receiver.
  No condition.
-/
import Derived.Test.YtljgifjokdppgaaRwSameLaw
import Derived.Test.YtljgifjokdppgaaRwCopy
namespace Go.Proofs.Ytljgifjokdppgaa
open Go Go.RowKit

theorem all_nil (i : Int) (w : World) : Calls Try.prog 14 #[.pointer none, .int .i64 i] w fun e w' => e = .returned (.slice none 0 0) ∧ Fr w w' Nil := by
  go_enter Try.func14, Try.ntmps14
  go_wp2_with fail
  refine (table_nil i w).mono ?_
  rintro e w1 ⟨rfl, ht, hf⟩
  have p0 : w1.cell? ⟨w.heap.size, 0, none⟩ = some (.int .i64 0) := ht.blk.cell 0
  have p1 : w1.cell? ⟨w.heap.size, 1, none⟩ = some (.slice none 0 0) := ht.blk.cell 1
  have HF := Lib.hid hf
  clear hf ht
  go_wp2_with fail
  go_loopw [5, 15] (fun v vi wr => v = .slice none 0 0 ∧ vi = .int .i64 0 ∧ Fr w wr Nil) (fun _ _ _ => 0)
  case atStart => exact ⟨rfl, rfl, HF.out⟩
  case round =>
    obtain ⟨rfl, rfl, hf⟩ := hrel
    have HF2 := Lib.hid hf
    clear hf
    go_wp2_with fail
    go_ret
    exact ⟨rfl, HF2.out⟩
theorem sum_nil (i : Int) (w : World) : Calls Try.prog 17 #[.pointer none, .int .i64 i, .int .i64 0] w fun e w' => e = .returned (.int .i64 0) ∧ Fr w w' Nil := by
  go_enter Try.func17, Try.ntmps17
  go_wp2_with fail
  refine (table_nil i w).mono ?_
  rintro e w1 ⟨rfl, ht, hf⟩
  have p0 : w1.cell? ⟨w.heap.size, 0, none⟩ = some (.int .i64 0) := ht.blk.cell 0
  have p1 : w1.cell? ⟨w.heap.size, 1, none⟩ = some (.slice none 0 0) := ht.blk.cell 1
  have HF := Lib.hid hf
  clear hf ht
  go_wp2_with fail
  refine (has_any _ _ _).mono ?_
  rintro e w2 ⟨rfl, rfl⟩
  go_wp2_with fail
  go_ret
  exact ⟨rfl, HF.out⟩
theorem get_nil (i k : Int) (w : World) : Calls Try.prog 15 #[.pointer none, .int .i64 i, .int .i64 k] w fun e w' => e = .returned (.tuple #[.slice none 0 0, .bool false]) ∧ Fr w w' Nil := by
  go_enter Try.func15, Try.ntmps15
  go_wp2_with fail
  refine (table_nil i w).mono ?_
  rintro e w1 ⟨rfl, ht, hf⟩
  have HT := Lib.hid ht
  have HF := Lib.hid hf
  clear hf ht
  go_wp2_with fail
  refine (find_any _ k _ HT.out List.Pairwise.nil (Nat.zero_le _)).mono ?_
  rintro e w2 ⟨rfl, hf⟩
  have HF2 := Lib.hid (HF.out.trans0 hf)
  clear hf
  go_wp2_with fail
  go_ret2
  exact ⟨rfl, HF2.out⟩
theorem set_nil (i k c n : Int) (w : World) : Calls Try.prog 11 #[.pointer none, .int .i64 i, .int .i64 k, .int .i64 c, .int .i64 n] w fun e w' => e = .returned (.tuple #[.bool false, .int .i64 1]) ∧ Fr w w' Nil := by
  go_enter Try.func11, Try.ntmps11
  go_wp2_with fail
  refine (table_nil i w).mono ?_
  rintro e w1 ⟨rfl, ht, hf⟩
  have HF := Lib.hid hf
  clear hf ht
  go_wp2_with fail
  go_ret2
  exact ⟨rfl, HF.out⟩
theorem del_nil (i k : Int) (w : World) : Calls Try.prog 12 #[.pointer none, .int .i64 i, .int .i64 k] w fun e w' => e = .returned (.tuple #[.bool false, .int .i64 1]) ∧ Fr w w' Nil := by
  go_enter Try.func12, Try.ntmps12
  go_wp2_with fail
  refine (table_nil i w).mono ?_
  rintro e w1 ⟨rfl, ht, hf⟩
  have HF := Lib.hid hf
  clear hf ht
  go_wp2_with fail
  go_ret2
  exact ⟨rfl, HF.out⟩
theorem put_nil (i k : Int) (v : Value) (w : World) : Calls Try.prog 13 #[.pointer none, .int .i64 i, .int .i64 k, v] w fun e w' => e = .returned (.int .i64 1) ∧ Fr w w' Nil := by
  go_enter Try.func13, Try.ntmps13
  go_wp2_with fail
  refine (table_nil i w).mono ?_
  rintro e w1 ⟨rfl, ht, hf⟩
  have HF := Lib.hid hf
  clear hf ht
  go_wp2_with fail
  go_ret
  exact ⟨rfl, HF.out⟩
theorem same_nn (w : World) : Calls Try.prog 22 #[.pointer none, .pointer none] w fun e w' => e = .returned (.bool true) ∧ Fr w w' Nil := by
  go_enter Try.func22, Try.ntmps22
  go_wp2_with fail
  go_ret
  exact ⟨rfl, Fr.refl _ _⟩
theorem same_rn (r : Nat) (w : World) : Calls Try.prog 22 #[rptr r, .pointer none] w fun e w' => e = .returned (.bool false) ∧ Fr w w' Nil := by
  go_enter Try.func22, Try.ntmps22
  go_wp2_with fail
  go_ret
  exact ⟨rfl, Fr.refl _ _⟩
theorem same_nr (r : Nat) (w : World) : Calls Try.prog 22 #[.pointer none, rptr r] w fun e w' => e = .returned (.bool false) ∧ Fr w w' Nil := by
  go_enter Try.func22, Try.ntmps22
  go_wp2_with fail
  go_ret
  exact ⟨rfl, Fr.refl _ _⟩
end Go.Proofs.Ytljgifjokdppgaa
