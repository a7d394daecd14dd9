/-
  LockBeside answers true at every input, and leaves what came in as it was: the given statement.
  No condition.
-/
import Derived.Test.YtecffdgnmnpmbaaRows
import Derived.Test.YtecffdgnmnpmbaaPkC34
import Derived.Test.YtecffdgnmnpmbaaPkC39
import Derived.Test.YtecffdgnmnpmbaaPkB3
import Derived.Test.YtecffdgnmnpmbaaPkC35
import Derived.ProofKit
namespace Go.Proofs.Ytecffdgnmnpmbaa
open Go Go.ChangeShapes Go.WideShapes Go.ChangeAt Go.RowKit

namespace LockBesideLift
theorem own : ownKnob Try.prog.godebug = none := by kernel_rfl
theorem laid : laidOutB Try.prog = true := by kernel_rfl
theorem nice : ∀ t ∈ Try.f4.params.toList, Try.prog.readableRec t = true ∧ t < Try.prog.types.size := by
  intro t ht
  rw [Try.params4] at ht
  simp at ht
  rcases ht with rfl | rfl
  · exact ⟨by kernel_rfl, of_decide_eq_true (by kernel_rfl)⟩
  · exact ⟨by kernel_rfl, of_decide_eq_true (by kernel_rfl)⟩

set_option maxRecDepth 100000 in
theorem lifted (os : Os) (started : os.Started) (H : Type) (enc : TypeId × Value → H) :
    ReturnsInHanded {} Try.checked os 4 .any (Rows.lockBesideSpec.pre6 enc Try.prog Try.f4 Rows.lockBesideRow.domain false) (Rows.lockBesideSpec.post enc Try.prog Try.f4 false true false false) := by
  refine returnsInHanded_of_change (C := Try.checked) own started (by kernel_rfl) Try.func4
    (ChangeSpec.witness6 (enc := enc) (C := Try.checked) false ⟨#[], #[.int .i64 0, .slice none 0 0], []⟩ 8 (by kernel_rfl) (by kernel_rfl) (by kernel_rfl) (by kernel_rfl)) ?_
  intro W base args ds gs before hval0 hW hcnd _
  have hval : ∀ (j : Nat) t v, Try.f4.params[j]? = some t → args[j]? = some v → Value.okWide Try.prog W .any base t v := hval0
  have hW' := hW
  obtain ⟨p, q, hA0, hV, rfl, hfz, hnd⟩ := hW
  have hA : DataW.TrodAll enc Try.prog W 0 (fun _ => true) true Try.f4.params.toList args.toList ds p := hA0
  rw [Try.params4] at hA hval
  obtain ⟨v0, v1, d0, d1, p0, p1, rfl, rfl, rfl, h0, h1⟩ := trodAll_two hA
  obtain ⟨rfl, rfl⟩ := trodVars_none hV
  obtain ⟨n0, rfl, rfl, rfl, w0⟩ := open_int Try.underlying3 (hval 0 3 v0 rfl rfl) h0
  clear hA0 hval0 hcnd
  have hca1 : ∃ l, KCallsAt W v1 l := by
    obtain ⟨fuel, hf⟩ := id h1
    obtain ⟨a0, len, cap, rfl⟩ := okWide_slice Try.underlying40 (hval 1 40 v1 rfl rfl)
    obtain ⟨v, l, hv, hc⟩ := read_calls11 hf
    simp only [Value.cells] at hv
    simp at hv
    subst hv
    exact ⟨l, hc⟩
  obtain ⟨l1, hl1⟩ := hca1
  simp only [List.append_nil] at hW'
  refine (lbeside_any n0 v1 l1 W hl1).mono fun e W' ⟨he, hf⟩ => ?_
  subst he
  exact ⟨_, rfl, law_post hW' rfl laid nice rfl Try.underlying4 rfl hf⟩
end LockBesideLift

theorem lockBeside_holds : Rows.LockBesideSaid :=
  OpenClaim.holds_of_wide 4 Try.f4 rfl rfl rfl rfl rfl rfl rfl ⟨rfl, rfl, rfl, rfl, rfl⟩ rfl rfl rfl rfl rfl (by kernel_rfl) Try.func4 (by kernel_rfl)
    (of_decide_eq_true (by kernel_rfl)) (by unfold Func.isWrapper; first | (rw [if_pos (by decide +kernel)]; kernel_rfl) | (rw [if_neg (by decide +kernel)]; exact ⟨rfl, rfl⟩))
    (fun os started H enc _ => LockBesideLift.lifted os started H enc)
end Go.Proofs.Ytecffdgnmnpmbaa
