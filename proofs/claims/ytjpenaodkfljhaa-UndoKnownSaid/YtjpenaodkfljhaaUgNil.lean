/-
  Logs and rows that are nil.
  No condition.
-/
import Derived.Test.YtjpenaodkfljhaaUdInv
namespace Go.Proofs.Ytjpenaodkfljhaa
open Go Go.RowKit

section
variable (w : World)
theorem nil_forget (who : Int) : Calls Try.prog 37 #[.pointer none, .int .i64 who] w fun e w' => e = .returned (.tuple #[]) ∧ w = w' := by
  go_enter Try.func37, Try.ntmps37
  go_wp2_with fail
  go_end0
  exact ⟨rfl, rfl⟩
theorem nil_note (who t k : Int) (v : Value) : Calls Try.prog 32 #[.pointer none, .int .i64 who, v, .int .i64 t, .int .i64 k] w fun e w' => e = .returned (.int .i64 1) ∧ w = w' := by
  go_enter Try.func32, Try.ntmps32
  go_wp2_with fail
  go_ret
  exact ⟨rfl, rfl⟩
theorem nil_note2 (lb : Nat) (who t k : Int) : Calls Try.prog 32 #[lptr lb, .int .i64 who, .pointer none, .int .i64 t, .int .i64 k] w fun e w' => e = .returned (.int .i64 1) ∧ w = w' := by
  go_enter Try.func32, Try.ntmps32
  go_wp2_with fail
  go_ret
  exact ⟨rfl, rfl⟩
theorem nil_len (who : Int) : Calls Try.prog 35 #[.pointer none, .int .i64 who] w fun e w' => e = .returned (.int .i64 0) ∧ w = w' := by
  go_enter Try.func35, Try.ntmps35
  go_wp2_with fail
  go_ret
  exact ⟨rfl, rfl⟩
theorem nil_back (who : Int) (v : Value) : Calls Try.prog 36 #[.pointer none, .int .i64 who, v] w fun e w' => e = .returned (.bool false) ∧ w = w' := by
  go_enter Try.func36, Try.ntmps36
  go_wp2_with fail
  refine (nil_len w who).mono ?_
  rintro e w1 ⟨rfl, rfl⟩
  go_wp2_with fail
  go_ret
  exact ⟨rfl, rfl⟩
theorem nil_back2 {lb : Nat} {most : Int} {L : List (Int × Ent)} {S : Nat → Prop} (who : Int) (h : LogAt w lb most L S) (hw : (Lit.int .i64 who).wf = true) : Calls Try.prog 36 #[lptr lb, .int .i64 who, .pointer none] w fun e w' => e = .returned (.bool false) ∧ w = w' := by
  have H := Lib.hid h
  obtain ⟨n, hn⟩ : ∃ n, (ofL L who).length = n := ⟨_, rfl⟩
  have HN := Lib.hid hn
  clear h hn
  by_cases h0 : n = 0
  · subst h0
    go_enter Try.func36, Try.ntmps36
    go_wp2_with fail
    refine (ulen_any who w H.out hw).mono ?_
    rintro e w1 ⟨rfl, rfl⟩
    rw [HN.out]
    go_wp2_with fail
    go_ret
    exact ⟨rfl, rfl⟩
  · have h1 : ((n : Int) == 0) = false := by rw [beq_eq_false_iff_ne]; omega
    go_enter Try.func36, Try.ntmps36
    go_wp2_with fail
    refine (ulen_any who w H.out hw).mono ?_
    rintro e w1 ⟨rfl, rfl⟩
    rw [HN.out]
    go_wp2_with fail
    go_ret
    exact ⟨rfl, rfl⟩
theorem nil_used : Calls Try.prog 25 #[.pointer none] w fun e w' => e = .returned (.int .i64 0) ∧ w = w' := by
  go_enter Try.func25, Try.ntmps25
  go_wp2_with fail
  go_ret
  exact ⟨rfl, rfl⟩
theorem nil_touched (who : Int) : Calls Try.prog 38 #[.pointer none, .int .i64 who] w fun e w' => e = .returned (.slice none 0 0) ∧ w = w' := by
  go_enter Try.func38, Try.ntmps38
  go_wp2_with fail
  go_ret
  exact ⟨rfl, rfl⟩
theorem nil_clean (v : Value) : Calls Try.prog 34 #[.pointer none, v] w fun e w' => e = .returned (.pointer none) ∧ w = w' := by
  go_enter Try.func34, Try.ntmps34
  go_wp2_with fail
  go_ret
  exact ⟨rfl, rfl⟩
theorem nil_clean2 (lb : Nat) : Calls Try.prog 34 #[lptr lb, .pointer none] w fun e w' => e = .returned (.pointer none) ∧ Fr w w' Nil := by
  have HB := Lib.hid (Bk.new w 36 #[.pointer none])
  have q0 := HB.out.cell 0
  have HF := Lib.hid ((Fr.refl w Nil).alloc (.cells #[.pointer none] 36))
  simp only [List.getElem?_cons_zero] at q0
  go_enter Try.func34, Try.ntmps34
  go_wp2_with fail
  refine (copy_nil w).mono ?_
  rintro e w1 ⟨rfl, rfl⟩
  go_wp2_with fail
  go_ret
  exact ⟨rfl, HF.out⟩
end
end Go.Proofs.Ytjpenaodkfljhaa
