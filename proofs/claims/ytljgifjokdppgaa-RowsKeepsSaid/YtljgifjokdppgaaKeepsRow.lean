/-
  RowsKeeps answers true at every input, and leaves what came in as it was: the given statement.
  No condition.
-/
import Derived.Test.YtljgifjokdppgaaRows
import Derived.Test.YtljgifjokdppgaaRwArgs
import Derived.Test.YtljgifjokdppgaaLawPost
import Derived.Test.YtljgifjokdppgaaRwKeeps
import Derived.ProofKit
namespace Go.Proofs.Ytljgifjokdppgaa
open Go Go.ChangeShapes Go.WideShapes Go.ChangeAt Go.RowKit

namespace RowsKeepsLift
theorem own : ownKnob Try.prog.godebug = none := by kernel_rfl
theorem laid : laidOutB Try.prog = true := by kernel_rfl
theorem nice : ∀ t ∈ Try.f4.params.toList, Try.prog.readableRec t = true ∧ t < Try.prog.types.size := by
  intro t ht
  rw [Try.params4] at ht
  simp at ht
  rcases ht with rfl | rfl | rfl
  · exact ⟨by kernel_rfl, of_decide_eq_true (by kernel_rfl)⟩
  · exact ⟨by kernel_rfl, of_decide_eq_true (by kernel_rfl)⟩
  · exact ⟨by kernel_rfl, of_decide_eq_true (by kernel_rfl)⟩

set_option maxRecDepth 100000 in
theorem lifted (os : Os) (started : os.Started) (H : Type) (enc : TypeId × Value → H) :
    ReturnsInHanded {} Try.checked os 4 .any (Rows.rowsKeepsSpec.pre6 enc Try.prog Try.f4 Rows.rowsKeepsRow.domain false) (Rows.rowsKeepsSpec.post enc Try.prog Try.f4 false true false false) := by
  refine returnsInHanded_of_change (C := Try.checked) own started (by kernel_rfl) Try.func4
    (ChangeSpec.witness6 (enc := enc) (C := Try.checked) false ⟨#[], #[.int .i64 0, .agg #[.int .i64 0, .int .i64 0, .int .i64 0], .slice none 0 0], []⟩ 8 (by kernel_rfl) (by kernel_rfl) (by kernel_rfl) (by kernel_rfl)) ?_
  intro W base args ds gs before hval0 hW hcnd _
  have hval : ∀ (j : Nat) t v, Try.f4.params[j]? = some t → args[j]? = some v → Value.okWide Try.prog W .any base t v := hval0
  have hW' := hW
  obtain ⟨p, q, hA0, hV, rfl, hfz, hnd⟩ := hW
  have hA : DataW.TrodAll enc Try.prog W 0 (fun _ => true) true Try.f4.params.toList args.toList ds p := hA0
  rw [Try.params4] at hA hval
  obtain ⟨v0, v1, v2, d0, d1, d2, p0, p1, p2, rfl, rfl, rfl, h0, h1, h2⟩ := trodAll_three hA
  obtain ⟨rfl, rfl⟩ := trodVars_none hV
  obtain ⟨n0, rfl, rfl, rfl, w0⟩ := open_int Try.underlying2 (hval 0 2 v0 rfl rfl) h0
  clear hA0 hval0 hcnd
  have har1 : ∃ a b c : Int, v1 = .agg #[.int .i64 a, .int .i64 b, .int .i64 c] := by
    obtain ⟨fuel, hf⟩ := id h1
    have ho := hval 1 46 v1 rfl rfl
    unfold Value.okWide at ho
    rw [Try.underlying46] at ho
    obtain ⟨cs, rfl, _⟩ := ho
    obtain ⟨xs, hx, hl, _⟩ := read_array Try.underlying46 Try.underlying2 (by kernel_rfl) (by kernel_rfl) hf
    match xs, hl with
    | [a, b, c], _ =>
      refine ⟨a, b, c, ?_⟩
      have h2 : cs.toList = [.int .i64 a, .int .i64 b, .int .i64 c] := hx
      rw [← Array.toArray_toList (xs := cs), h2]
  obtain ⟨a1, b1, c1, rfl⟩ := har1
  have hca2 : ∃ l, CallsAt W v2 l := by
    obtain ⟨fuel, hf⟩ := id h2
    obtain ⟨a0, len, cap, rfl⟩ := okWide_slice Try.underlying22 (hval 2 22 v2 rfl rfl)
    obtain ⟨v, l, hv, hc⟩ := read_calls hf
    simp only [Value.cells] at hv
    simp at hv
    subst hv
    exact ⟨l, hc⟩
  obtain ⟨l2, hl2⟩ := hca2
  simp only [List.append_nil] at hW'
  refine (keeps_any v2 l2 n0 a1 b1 c1 W hl2).mono fun e W' ⟨he, hf⟩ => ?_
  subst he
  exact ⟨_, rfl, law_post hW' rfl laid nice rfl Try.underlying4 rfl hf⟩
end RowsKeepsLift

theorem rowsKeeps_holds : Rows.RowsKeepsSaid :=
  OpenClaim.holds_of_wide 4 Try.f4 rfl rfl rfl rfl rfl rfl rfl ⟨rfl, rfl, rfl, rfl, rfl⟩ rfl rfl rfl rfl rfl (by kernel_rfl) Try.func4 (by kernel_rfl)
    (of_decide_eq_true (by kernel_rfl)) (by unfold Func.isWrapper; first | (rw [if_pos (by decide +kernel)]; kernel_rfl) | (rw [if_neg (by decide +kernel)]; exact ⟨rfl, rfl⟩))
    (fun os started H enc _ => RowsKeepsLift.lifted os started H enc)
end Go.Proofs.Ytljgifjokdppgaa
