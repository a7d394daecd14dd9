/-
  WaitsParts answers true at every input, and leaves what came in as it was: the given statement.
  No condition.
-/
import Derived.Test.YtkeiphmhckkniaaRows
import Derived.Test.YtkeiphmhckkniaaArgRead
import Derived.Test.YtkeiphmhckkniaaLawPost
import Derived.Test.YtkeiphmhckkniaaWtLParts
import Derived.Test.YtkeiphmhckkniaaWtArgs
import Derived.ProofKit
namespace Go.Proofs.Ytkeiphmhckkniaa
open Go Go.ChangeShapes Go.WideShapes Go.ChangeAt Go.RowKit

namespace WaitsPartsLift
theorem own : ownKnob Try.prog.godebug = none := by kernel_rfl
theorem laid : laidOutB Try.prog = true := by kernel_rfl
theorem nice : ∀ t ∈ Try.f5.params.toList, Try.prog.readableRec t = true ∧ t < Try.prog.types.size := by
  intro t ht
  rw [Try.params5] at ht
  simp at ht
  subst ht
  exact ⟨by kernel_rfl, of_decide_eq_true (by kernel_rfl)⟩

set_option maxRecDepth 100000 in
theorem lifted (os : Os) (started : os.Started) (H : Type) (enc : TypeId × Value → H) :
    ReturnsInHanded {} Try.checked os 5 .any (Rows.waitsPartsSpec.pre6 enc Try.prog Try.f5 Rows.waitsPartsRow.domain false) (Rows.waitsPartsSpec.post enc Try.prog Try.f5 false true false false) := by
  refine returnsInHanded_of_change (C := Try.checked) own started (by kernel_rfl) Try.func5
    (ChangeSpec.witness6 (enc := enc) (C := Try.checked) false ⟨#[], #[.slice none 0 0], []⟩ 8 (by kernel_rfl) (by kernel_rfl) (by kernel_rfl) (by kernel_rfl)) ?_
  intro W base args ds gs before hval0 hW hcnd _
  have hval : ∀ (j : Nat) t v, Try.f5.params[j]? = some t → args[j]? = some v → Value.okWide Try.prog W .any base t v := hval0
  have hW' := hW
  obtain ⟨p, q, hA0, hV, rfl, hfz, hnd⟩ := hW
  have hA : DataW.TrodAll enc Try.prog W 0 (fun _ => true) true Try.f5.params.toList args.toList ds p := hA0
  rw [Try.params5] at hA hval
  obtain ⟨v0, d0, rfl, rfl, h0⟩ := trodAll_one hA
  obtain ⟨rfl, rfl⟩ := trodVars_none hV
  clear hA0 hval0 hcnd
  have hca0 : ∃ l, GraphW W v0 l := by
    obtain ⟨fuel, hf⟩ := id h0
    obtain ⟨a0, len, cap, rfl⟩ := okWide_slice Try.underlying23 (hval 0 23 v0 rfl rfl)
    obtain ⟨v, l, hv, hc⟩ := read_graph hf
    simp only [Value.cells] at hv
    simp at hv
    subst hv
    exact ⟨l, hc⟩
  obtain ⟨l0, hl0⟩ := hca0
  simp only [List.append_nil] at hW'
  refine (wparts_any v0 l0 W hl0).mono fun e W' ⟨he, hf⟩ => ?_
  subst he
  exact ⟨_, rfl, law_post hW' rfl laid nice rfl Try.underlying4 rfl hf⟩
end WaitsPartsLift

theorem waitsParts_holds : Rows.WaitsPartsSaid :=
  OpenClaim.holds_of_wide 5 Try.f5 rfl rfl rfl rfl rfl rfl rfl ⟨rfl, rfl, rfl, rfl, rfl⟩ rfl rfl rfl rfl rfl (by kernel_rfl) Try.func5 (by kernel_rfl)
    (of_decide_eq_true (by kernel_rfl)) (by unfold Func.isWrapper; first | (rw [if_pos (by decide +kernel)]; kernel_rfl) | (rw [if_neg (by decide +kernel)]; exact ⟨rfl, rfl⟩))
    (fun os started H enc _ => WaitsPartsLift.lifted os started H enc)
end Go.Proofs.Ytkeiphmhckkniaa
