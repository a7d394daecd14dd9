/-
  RunPlays answers true at every input, and leaves what came in as it was: the given statement.
  No condition.
-/
import Derived.Test.YtgpekgnhbccnoaaGreatRows
import Derived.Test.YtgpekgnhbccnoaaGreatPkY2
import Derived.Test.YtgpekgnhbccnoaaGreatPkY3
import Derived.Test.YtgpekgnhbccnoaaGreatPkY44
import Derived.Test.YtgpekgnhbccnoaaGreatPkY45
import Derived.Test.YtgpekgnhbccnoaaGreatPkY46
import Derived.Carry
import Derived.ProofKit
namespace Go.Proofs.YtgpekgnhbccnoaaGreat
open Go Go.ChangeShapes Go.WideShapes Go.ChangeAt Go.RowKit

namespace RunPlaysLift
theorem own : ownKnob Tryz.prog.godebug = none := by kernel_rfl
theorem laid : laidOutB Tryz.prog = true := by kernel_rfl
theorem nice : ∀ t ∈ Tryz.f3.params.toList, Tryz.prog.readableRec t = true ∧ t < Tryz.prog.types.size := by
  intro t ht
  rw [Tryz.params3] at ht
  simp at ht
  rcases ht with rfl | rfl | rfl | rfl | rfl | rfl | rfl
  · exact ⟨by kernel_rfl, of_decide_eq_true (by kernel_rfl)⟩
  · exact ⟨by kernel_rfl, of_decide_eq_true (by kernel_rfl)⟩
  · exact ⟨by kernel_rfl, of_decide_eq_true (by kernel_rfl)⟩
  · exact ⟨by kernel_rfl, of_decide_eq_true (by kernel_rfl)⟩
  · exact ⟨by kernel_rfl, of_decide_eq_true (by kernel_rfl)⟩
  · exact ⟨by kernel_rfl, of_decide_eq_true (by kernel_rfl)⟩
  · exact ⟨by kernel_rfl, of_decide_eq_true (by kernel_rfl)⟩

set_option maxRecDepth 100000 in
theorem lifted (os : Os) (started : os.Started) (H : Type) (enc : TypeId × Value → H) :
    ReturnsInHanded {} Tryz.checked os 3 .any (Rows.runPlaysSpec.pre6 enc Tryz.prog Tryz.f3 Rows.runPlaysRow.domain false) (Rows.runPlaysSpec.post enc Tryz.prog Tryz.f3 false true false false) := by
  refine returnsInHanded_of_change (C := Tryz.checked) own started (by kernel_rfl) Tryz.func3
    (ChangeSpec.witness6 (enc := enc) (C := Tryz.checked) false ⟨#[], #[.slice none 0 0, .slice none 0 0, .int .i64 0, .slice none 0 0, .int .u8 0, .int .i64 0, .int .u64 0], []⟩ 8 (by kernel_rfl) (by kernel_rfl) (by kernel_rfl) (by kernel_rfl)) ?_
  intro W base args ds gs before hval0 hW hcnd _
  have hval : ∀ (j : Nat) t v, Tryz.f3.params[j]? = some t → args[j]? = some v → Value.okWide Tryz.prog W .any base t v := hval0
  have hW' := hW
  obtain ⟨p, q, hA0, hV, rfl, hfz, hnd⟩ := hW
  have hA : DataW.TrodAll enc Tryz.prog W 0 (fun _ => true) true Tryz.f3.params.toList args.toList ds p := hA0
  rw [Tryz.params3] at hA hval
  obtain ⟨v0, v1, v2, v3, v4, v5, v6, d0, d1, d2, d3, d4, d5, d6, p0, p1, p2, p3, p4, p5, p6, rfl, rfl, rfl, h0, h1, h2, h3, h4, h5, h6⟩ := trodAll_seven hA
  obtain ⟨rfl, rfl⟩ := trodVars_none hV
  obtain ⟨n2, rfl, rfl, rfl, w2⟩ := open_int Tryz.underlying3 (hval 2 3 v2 rfl rfl) h2
  obtain ⟨n4, rfl, rfl, rfl, w4⟩ := open_int Tryz.underlying5 (hval 4 5 v4 rfl rfl) h4
  obtain ⟨n5, rfl, rfl, rfl, w5⟩ := open_int Tryz.underlying3 (hval 5 3 v5 rfl rfl) h5
  obtain ⟨n6, rfl, rfl, rfl, w6⟩ := open_int Tryz.underlying25 (hval 6 25 v6 rfl rfl) h6
  clear hA0 hval0 hcnd
  have hca0 : ∃ l, CodeAt W v0 l ∧ CapOk v0 ∧ l.length ≤ 9223372036854775807 ∧ ∀ n ∈ l, 0 ≤ n.op ∧ n.op < 256 := by
    obtain ⟨fuel, hf⟩ := id h0
    obtain ⟨a0, len, cap, rfl⟩ := okWide_slice Tryz.underlying22 (hval 0 22 v0 rfl rfl)
    obtain ⟨v, l, hv, hc⟩ := read_code hf
    simp only [Value.cells] at hv
    simp at hv
    subst hv
    exact ⟨l, hc⟩
  obtain ⟨l0, hl0⟩ := hca0
  have hca1 : ∃ l, IntsAt W v1 l ∧ l.length ≤ 9223372036854775807 ∧ ∀ n ∈ l, (Lit.int .i64 n).wf = true := by
    obtain ⟨fuel, hf⟩ := id h1
    obtain ⟨a0, len, cap, rfl⟩ := okWide_slice Tryz.underlying23 (hval 1 23 v1 rfl rfl)
    obtain ⟨v, l, hv, hc⟩ := read_ints Tryz.underlying23 Tryz.underlying3 (by kernel_rfl) hf
    simp only [Value.cells] at hv
    simp at hv
    subst hv
    exact ⟨l, hc⟩
  obtain ⟨l1, hl1, hm1, hw1⟩ := hca1
  have hca3 : ∃ l, IntsAt W v3 l ∧ l.length ≤ 9223372036854775807 ∧ ∀ n ∈ l, (Lit.int .i64 n).wf = true := by
    obtain ⟨fuel, hf⟩ := id h3
    obtain ⟨a0, len, cap, rfl⟩ := okWide_slice Tryz.underlying24 (hval 3 24 v3 rfl rfl)
    obtain ⟨v, l, hv, hc⟩ := read_ints Tryz.underlying24 Tryz.underlying2 (by kernel_rfl) hf
    simp only [Value.cells] at hv
    simp at hv
    subst hv
    exact ⟨l, hc⟩
  obtain ⟨l3, hl3, hm3, hw3⟩ := hca3
  simp only [List.append_nil] at hW'
  refine (plays_int v0 v1 v3 l0 l1 l3 n2 n4 n5 n6 W hl0.1 hl0.2.1 hl0.2.2.2 hl1 hl3 w4).mono fun e W' ⟨he, hf⟩ => ?_
  subst he
  exact ⟨_, rfl, law_post hW' rfl laid nice rfl Tryz.underlying4 rfl hf⟩
end RunPlaysLift

theorem runPlays_holds : Rows.RunPlaysSaid :=
  OpenClaim.holds_of_wide 3 Tryz.f3 rfl rfl rfl rfl rfl rfl rfl ⟨rfl, rfl, rfl, rfl, rfl⟩ rfl rfl rfl rfl rfl (by kernel_rfl) Tryz.func3 (by kernel_rfl)
    (of_decide_eq_true (by kernel_rfl)) (by unfold Func.isWrapper; first | (rw [if_pos (by decide +kernel)]; kernel_rfl) | (rw [if_neg (by decide +kernel)]; exact ⟨rfl, rfl⟩))
    (fun os started H enc _ => RunPlaysLift.lifted os started H enc)
end Go.Proofs.YtgpekgnhbccnoaaGreat
