/-
  AdmitPlays answers true at every input, and leaves what came in as it was: the given statement.
  No condition.
-/
import Derived.Test.YtplebgcgoigigaaRows
import Derived.Test.YtplebgcgoigigaaArgRead
import Derived.Test.YtplebgcgoigigaaLawPost
import Derived.Test.YtplebgcgoigigaaRgPlays
import Derived.Test.YtplebgcgoigigaaAdArgs
import Derived.ProofKit
namespace Go.Proofs.Ytplebgcgoigigaa
open Go Go.ChangeShapes Go.WideShapes Go.ChangeAt Go.RowKit

namespace AdmitPlaysLift
theorem own : ownKnob Try.prog.godebug = none := by kernel_rfl
theorem laid : laidOutB Try.prog = true := by kernel_rfl
theorem nice : ∀ t ∈ Try.f4.params.toList, Try.prog.readableRec t = true ∧ t < Try.prog.types.size := by
  intro t ht
  rw [Try.params4] at ht
  simp at ht
  rcases ht with rfl | rfl
  · exact ⟨by kernel_rfl, of_decide_eq_true (by kernel_rfl)⟩
  · exact ⟨by kernel_rfl, of_decide_eq_true (by kernel_rfl)⟩

set_option maxRecDepth 100000 in
theorem lifted (os : Os) (started : os.Started) (H : Type) (enc : TypeId × Value → H) :
    ReturnsInHanded {} Try.checked os 4 .any (Rows.admitPlaysSpec.pre6 enc Try.prog Try.f4 Rows.admitPlaysRow.domain false) (Rows.admitPlaysSpec.post enc Try.prog Try.f4 false true false false) := by
  refine returnsInHanded_of_change (C := Try.checked) own started (by kernel_rfl) Try.func4
    (ChangeSpec.witness6 (enc := enc) (C := Try.checked) false ⟨#[], #[.agg #[.int .i64 0, .int .i64 0, .int .i64 0], .slice none 0 0], []⟩ 8 (by kernel_rfl) (by kernel_rfl) (by kernel_rfl) (by kernel_rfl)) ?_
  intro W base args ds gs before hval0 hW hcnd _
  have hval : ∀ (j : Nat) t v, Try.f4.params[j]? = some t → args[j]? = some v → Value.okWide Try.prog W .any base t v := hval0
  have hW' := hW
  obtain ⟨p, q, hA0, hV, rfl, hfz, hnd⟩ := hW
  have hA : DataW.TrodAll enc Try.prog W 0 (fun _ => true) true Try.f4.params.toList args.toList ds p := hA0
  rw [Try.params4] at hA hval
  obtain ⟨v0, v1, d0, d1, p0, p1, rfl, rfl, rfl, h0, h1⟩ := trodAll_two hA
  obtain ⟨rfl, rfl⟩ := trodVars_none hV
  clear hA0 hval0 hcnd
  have hst0 : ∃ c : CapD, v0 = CapD.val c := by
    obtain ⟨fuel, hf⟩ := id h0
    have ho := hval 0 23 v0 rfl rfl
    unfold Value.okWide at ho
    rw [Try.underlying23] at ho
    obtain ⟨cs, rfl, _⟩ := ho
    obtain ⟨c, hc⟩ := read_caps hf
    refine ⟨c, ?_⟩
    have h2 : cs.toList = _ := hc
    rw [← Array.toArray_toList (xs := cs), h2]
  obtain ⟨c0, rfl⟩ := hst0
  have hca1 : ∃ l, CallsAt W v1 l := by
    obtain ⟨fuel, hf⟩ := id h1
    obtain ⟨a0, len, cap, rfl⟩ := okWide_slice Try.underlying24 (hval 1 24 v1 rfl rfl)
    obtain ⟨v, l, hv, hc⟩ := read_calls17 hf
    simp only [Value.cells] at hv
    simp at hv
    subst hv
    exact ⟨l, hc⟩
  obtain ⟨l1, hl1⟩ := hca1
  simp only [List.append_nil] at hW'
  refine (aplays_any c0 v1 l1 W hl1).mono fun e W' ⟨he, hf⟩ => ?_
  subst he
  exact ⟨_, rfl, law_post hW' rfl laid nice rfl Try.underlying4 rfl hf⟩
end AdmitPlaysLift

theorem admitPlays_holds : Rows.AdmitPlaysSaid :=
  OpenClaim.holds_of_wide 4 Try.f4 rfl rfl rfl rfl rfl rfl rfl ⟨rfl, rfl, rfl, rfl, rfl⟩ rfl rfl rfl rfl rfl (by kernel_rfl) Try.func4 (by kernel_rfl)
    (of_decide_eq_true (by kernel_rfl)) (by unfold Func.isWrapper; first | (rw [if_pos (by decide +kernel)]; kernel_rfl) | (rw [if_neg (by decide +kernel)]; exact ⟨rfl, rfl⟩))
    (fun os started H enc _ => AdmitPlaysLift.lifted os started H enc)
end Go.Proofs.Ytplebgcgoigigaa
