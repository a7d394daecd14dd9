/-
  HistoryMore answers true at every input, and leaves what came in as it was: the given statement.
  No condition.
-/
import Derived.Test.YtegejcmihojhbaaRows
import Derived.Test.YtegejcmihojhbaaArgRead
import Derived.Test.YtegejcmihojhbaaLawPost
import Derived.Test.YtegejcmihojhbaaHsMore
import Derived.Test.YtegejcmihojhbaaHsArgs
import Derived.ProofKit
namespace Go.Proofs.Ytegejcmihojhbaa
open Go Go.ChangeShapes Go.WideShapes Go.ChangeAt Go.RowKit

namespace HistoryMoreLift
theorem own : ownKnob Try.prog.godebug = none := by kernel_rfl
theorem laid : laidOutB Try.prog = true := by kernel_rfl
theorem nice : ∀ t ∈ Try.f3.params.toList, Try.prog.readableRec t = true ∧ t < Try.prog.types.size := by
  intro t ht
  rw [Try.params3] at ht
  simp at ht
  rcases ht with rfl | rfl
  · exact ⟨by kernel_rfl, of_decide_eq_true (by kernel_rfl)⟩
  · exact ⟨by kernel_rfl, of_decide_eq_true (by kernel_rfl)⟩

set_option maxRecDepth 100000 in
theorem lifted (os : Os) (started : os.Started) (H : Type) (enc : TypeId × Value → H) :
    ReturnsInHanded {} Try.checked os 3 .any (Rows.historyMoreSpec.pre6 enc Try.prog Try.f3 Rows.historyMoreRow.domain false) (Rows.historyMoreSpec.post enc Try.prog Try.f3 false true false false) := by
  refine returnsInHanded_of_change (C := Try.checked) own started (by kernel_rfl) Try.func3
    (ChangeSpec.witness6 (enc := enc) (C := Try.checked) false ⟨#[], #[.slice none 0 0, .slice none 0 0, .slice none 0 0], []⟩ 8 (by kernel_rfl) (by kernel_rfl) (by kernel_rfl) (by kernel_rfl)) ?_
  intro W base args ds gs before hval0 hW hcnd _
  have hval : ∀ (j : Nat) t v, Try.f3.params[j]? = some t → args[j]? = some v → Value.okWide Try.prog W .any base t v := hval0
  have hW' := hW
  obtain ⟨p, q, hA0, hV, rfl, hfz, hnd⟩ := hW
  have hA : DataW.TrodAll enc Try.prog W 0 (fun _ => true) true Try.f3.params.toList args.toList ds p := hA0
  rw [Try.params3] at hA hval
  obtain ⟨v0, v1, v2, d0, d1, d2, p0, p1, p2, rfl, rfl, rfl, h0, h1, h2⟩ := trodAll_three hA
  obtain ⟨rfl, rfl⟩ := trodVars_none hV
  clear hA0 hval0 hcnd
  have hca0 : ∃ l, IntsAt W v0 l ∧ l.length ≤ 9223372036854775807 ∧ ∀ n ∈ l, (Lit.int .i64 n).wf = true := by
    obtain ⟨fuel, hf⟩ := id h0
    obtain ⟨a0, len, cap, rfl⟩ := okWide_slice Try.underlying22 (hval 0 22 v0 rfl rfl)
    obtain ⟨v, l, hv, hc⟩ := read_ints Try.underlying22 Try.underlying2 (by kernel_rfl) hf
    simp only [Value.cells] at hv
    simp at hv
    subst hv
    exact ⟨l, hc⟩
  obtain ⟨l0, hl0, hm0, hw0⟩ := hca0
  have hca1 : ∃ l, TsAt W v1 l := by
    obtain ⟨fuel, hf⟩ := id h1
    obtain ⟨a0, len, cap, rfl⟩ := okWide_slice Try.underlying23 (hval 1 23 v1 rfl rfl)
    obtain ⟨v, l, hv, hc⟩ := read_touches hf
    simp only [Value.cells] at hv
    simp at hv
    subst hv
    exact ⟨l, hc⟩
  obtain ⟨l1, hl1⟩ := hca1
  have hca2 : ∃ l, TsAt W v2 l := by
    obtain ⟨fuel, hf⟩ := id h2
    obtain ⟨a0, len, cap, rfl⟩ := okWide_slice Try.underlying23 (hval 2 23 v2 rfl rfl)
    obtain ⟨v, l, hv, hc⟩ := read_touches hf
    simp only [Value.cells] at hv
    simp at hv
    subst hv
    exact ⟨l, hc⟩
  obtain ⟨l2, hl2⟩ := hca2
  simp only [List.append_nil] at hW'
  refine (more_any v0 v1 v2 l0 l1 l2 W hl0 hl1 hl2 hw0).mono fun e W' ⟨he, hf⟩ => ?_
  subst he
  exact ⟨_, rfl, law_post hW' rfl laid nice rfl Try.underlying4 rfl hf⟩
end HistoryMoreLift

theorem historyMore_holds : Rows.HistoryMoreSaid :=
  OpenClaim.holds_of_wide 3 Try.f3 rfl rfl rfl rfl rfl rfl rfl ⟨rfl, rfl, rfl, rfl, rfl⟩ rfl rfl rfl rfl rfl (by kernel_rfl) Try.func3 (by kernel_rfl)
    (of_decide_eq_true (by kernel_rfl)) (by unfold Func.isWrapper; first | (rw [if_pos (by decide +kernel)]; kernel_rfl) | (rw [if_neg (by decide +kernel)]; exact ⟨rfl, rfl⟩))
    (fun os started H enc _ => HistoryMoreLift.lifted os started H enc)
end Go.Proofs.Ytegejcmihojhbaa
