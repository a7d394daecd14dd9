/-
  HistoryOrders answers true at every input, and leaves what came in as it was: the given statement.
  No condition.
-/
import Derived.Test.YtegejcmihojhbaaRows
import Derived.Test.YtegejcmihojhbaaArgRead
import Derived.Test.YtegejcmihojhbaaLawPost
import Derived.Test.YtegejcmihojhbaaHsOrders
import Derived.Test.YtegejcmihojhbaaHsArgs
import Derived.ProofKit
namespace Go.Proofs.Ytegejcmihojhbaa
open Go Go.ChangeShapes Go.WideShapes Go.ChangeAt Go.RowKit

namespace HistoryOrdersLift
theorem own : ownKnob Try.prog.godebug = none := by kernel_rfl
theorem laid : laidOutB Try.prog = true := by kernel_rfl
theorem nice : ∀ t ∈ Try.f4.params.toList, Try.prog.readableRec t = true ∧ t < Try.prog.types.size := by
  intro t ht
  rw [Try.params4] at ht
  simp at ht
  rcases ht with rfl | rfl
  · exact ⟨by kernel_rfl, of_decide_eq_true (by kernel_rfl)⟩
  · exact ⟨by kernel_rfl, of_decide_eq_true (by kernel_rfl)⟩

set_option maxRecDepth 100000 in
theorem lifted (os : Os) (started : os.Started) (H : Type) (enc : TypeId × Value → H) :
    ReturnsInHanded {} Try.checked os 4 .any (Rows.historyOrdersSpec.pre6 enc Try.prog Try.f4 Rows.historyOrdersRow.domain false) (Rows.historyOrdersSpec.post enc Try.prog Try.f4 false true false false) := by
  refine returnsInHanded_of_change (C := Try.checked) own started (by kernel_rfl) Try.func4
    (ChangeSpec.witness6 (enc := enc) (C := Try.checked) false ⟨#[], #[.slice none 0 0, .slice none 0 0, .slice none 0 0], []⟩ 8 (by kernel_rfl) (by kernel_rfl) (by kernel_rfl) (by kernel_rfl)) ?_
  intro W base args ds gs before hval0 hW hcnd _
  have hval : ∀ (j : Nat) t v, Try.f4.params[j]? = some t → args[j]? = some v → Value.okWide Try.prog W .any base t v := hval0
  have hW' := hW
  obtain ⟨p, q, hA0, hV, rfl, hfz, hnd⟩ := hW
  have hA : DataW.TrodAll enc Try.prog W 0 (fun _ => true) true Try.f4.params.toList args.toList ds p := hA0
  rw [Try.params4] at hA hval
  obtain ⟨v0, v1, v2, d0, d1, d2, p0, p1, p2, rfl, rfl, rfl, h0, h1, h2⟩ := trodAll_three hA
  obtain ⟨rfl, rfl⟩ := trodVars_none hV
  clear hA0 hval0 hcnd
  have hca0 : ∃ l, RowsU8At W v0 l := by
    obtain ⟨fuel, hf⟩ := id h0
    obtain ⟨a0, len, cap, rfl⟩ := okWide_slice Try.underlying30 (hval 0 30 v0 rfl rfl)
    obtain ⟨v, l, hv, hc⟩ := read_rows8 hf
    simp only [Value.cells] at hv
    simp at hv
    subst hv
    exact ⟨l, hc⟩
  obtain ⟨l0, hl0⟩ := hca0
  have hca1 : ∃ l, IntsAt W v1 l ∧ l.length ≤ 9223372036854775807 ∧ ∀ n ∈ l, (Lit.int .i64 n).wf = true := by
    obtain ⟨fuel, hf⟩ := id h1
    obtain ⟨a0, len, cap, rfl⟩ := okWide_slice Try.underlying28 (hval 1 28 v1 rfl rfl)
    obtain ⟨v, l, hv, hc⟩ := read_ints Try.underlying28 Try.underlying3 (by kernel_rfl) hf
    simp only [Value.cells] at hv
    simp at hv
    subst hv
    exact ⟨l, hc⟩
  obtain ⟨l1, hl1, hm1, hw1⟩ := hca1
  have hca2 : ∃ l, IntsAt W v2 l ∧ l.length ≤ 9223372036854775807 ∧ ∀ n ∈ l, (Lit.int .i64 n).wf = true := by
    obtain ⟨fuel, hf⟩ := id h2
    obtain ⟨a0, len, cap, rfl⟩ := okWide_slice Try.underlying28 (hval 2 28 v2 rfl rfl)
    obtain ⟨v, l, hv, hc⟩ := read_ints Try.underlying28 Try.underlying3 (by kernel_rfl) hf
    simp only [Value.cells] at hv
    simp at hv
    subst hv
    exact ⟨l, hc⟩
  obtain ⟨l2, hl2, hm2, hw2⟩ := hca2
  simp only [List.append_nil] at hW'
  refine (orders_any v0 v1 v2 l0 l1 l2 W hl0 hl1 hl2).mono fun e W' ⟨he, hf⟩ => ?_
  subst he
  exact ⟨_, rfl, law_post hW' rfl laid nice rfl Try.underlying4 rfl hf⟩
end HistoryOrdersLift

theorem historyOrders_holds : Rows.HistoryOrdersSaid :=
  OpenClaim.holds_of_wide 4 Try.f4 rfl rfl rfl rfl rfl rfl rfl ⟨rfl, rfl, rfl, rfl, rfl⟩ rfl rfl rfl rfl rfl (by kernel_rfl) Try.func4 (by kernel_rfl)
    (of_decide_eq_true (by kernel_rfl)) (by unfold Func.isWrapper; first | (rw [if_pos (by decide +kernel)]; kernel_rfl) | (rw [if_neg (by decide +kernel)]; exact ⟨rfl, rfl⟩))
    (fun os started H enc _ => HistoryOrdersLift.lifted os started H enc)
end Go.Proofs.Ytegejcmihojhbaa
