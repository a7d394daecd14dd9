/-
  LockOrder answers true at every input, and leaves what came in as it was: the given statement.
  No condition.
-/
import Derived.Test.YtecffdgnmnpmbaaRows
import Derived.Test.YtecffdgnmnpmbaaPkC34
import Derived.Test.YtecffdgnmnpmbaaPkC39
import Derived.Test.YtecffdgnmnpmbaaPkO3
import Derived.Test.YtecffdgnmnpmbaaPkC35
import Derived.ProofKit
namespace Go.Proofs.Ytecffdgnmnpmbaa
open Go Go.ChangeShapes Go.WideShapes Go.ChangeAt Go.RowKit

namespace LockOrderLift
theorem own : ownKnob Try.prog.godebug = none := by kernel_rfl
theorem laid : laidOutB Try.prog = true := by kernel_rfl
theorem nice : ∀ t ∈ Try.f5.params.toList, Try.prog.readableRec t = true ∧ t < Try.prog.types.size := by
  intro t ht
  rw [Try.params5] at ht
  simp at ht
  rcases ht with rfl | rfl
  · exact ⟨by kernel_rfl, of_decide_eq_true (by kernel_rfl)⟩
  · exact ⟨by kernel_rfl, of_decide_eq_true (by kernel_rfl)⟩

set_option maxRecDepth 100000 in
theorem lifted (os : Os) (started : os.Started) (H : Type) (enc : TypeId × Value → H) :
    ReturnsInHanded {} Try.checked os 5 .any (Rows.lockOrderSpec.pre6 enc Try.prog Try.f5 Rows.lockOrderRow.domain false) (Rows.lockOrderSpec.post enc Try.prog Try.f5 false true false false) := by
  refine returnsInHanded_of_change (C := Try.checked) own started (by kernel_rfl) Try.func5
    (ChangeSpec.witness6 (enc := enc) (C := Try.checked) false ⟨#[], #[.slice none 0 0, .agg #[.int .i64 0, .bool false, .int .i64 0]], []⟩ 8 (by kernel_rfl) (by kernel_rfl) (by kernel_rfl) (by kernel_rfl)) ?_
  intro W base args ds gs before hval0 hW hcnd _
  have hval : ∀ (j : Nat) t v, Try.f5.params[j]? = some t → args[j]? = some v → Value.okWide Try.prog W .any base t v := hval0
  have hW' := hW
  obtain ⟨p, q, hA0, hV, rfl, hfz, hnd⟩ := hW
  have hA : DataW.TrodAll enc Try.prog W 0 (fun _ => true) true Try.f5.params.toList args.toList ds p := hA0
  rw [Try.params5] at hA hval
  obtain ⟨v0, v1, d0, d1, p0, p1, rfl, rfl, rfl, h0, h1⟩ := trodAll_two hA
  obtain ⟨rfl, rfl⟩ := trodVars_none hV
  clear hA0 hval0 hcnd
  have hca0 : ∃ l, KCallsAt W v0 l := by
    obtain ⟨fuel, hf⟩ := id h0
    obtain ⟨a0, len, cap, rfl⟩ := okWide_slice Try.underlying40 (hval 0 40 v0 rfl rfl)
    obtain ⟨v, l, hv, hc⟩ := read_calls11 hf
    simp only [Value.cells] at hv
    simp at hv
    subst hv
    exact ⟨l, hc⟩
  obtain ⟨l0, hl0⟩ := hca0
  have hst1 : ∃ s : Spot, SWf s ∧ v1 = spV s := by
    obtain ⟨fuel, hf⟩ := id h1
    have ho := hval 1 26 v1 rfl rfl
    unfold Value.okWide at ho
    rw [Try.underlying26] at ho
    obtain ⟨cs, rfl, _⟩ := ho
    obtain ⟨s, hs, hc⟩ := read_spot hf
    refine ⟨s, hs, ?_⟩
    have h2 : cs.toList = _ := hc
    rw [← Array.toArray_toList (xs := cs), h2]
  obtain ⟨s1, hs1, rfl⟩ := hst1
  simp only [List.append_nil] at hW'
  refine (lorder_any v0 l0 s1 W hl0 hs1).mono fun e W' ⟨he, hf⟩ => ?_
  subst he
  exact ⟨_, rfl, law_post hW' rfl laid nice rfl Try.underlying4 rfl hf⟩
end LockOrderLift

theorem lockOrder_holds : Rows.LockOrderSaid :=
  OpenClaim.holds_of_wide 5 Try.f5 rfl rfl rfl rfl rfl rfl rfl ⟨rfl, rfl, rfl, rfl, rfl⟩ rfl rfl rfl rfl rfl (by kernel_rfl) Try.func5 (by kernel_rfl)
    (of_decide_eq_true (by kernel_rfl)) (by unfold Func.isWrapper; first | (rw [if_pos (by decide +kernel)]; kernel_rfl) | (rw [if_neg (by decide +kernel)]; exact ⟨rfl, rfl⟩))
    (fun os started H enc _ => LockOrderLift.lifted os started H enc)
end Go.Proofs.Ytecffdgnmnpmbaa
