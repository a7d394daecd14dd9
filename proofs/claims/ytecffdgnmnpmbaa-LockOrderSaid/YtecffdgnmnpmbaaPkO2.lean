/-
  A region without a last operation: an operation that is not wanted.
  No condition.
-/
import Derived.Test.YtecffdgnmnpmbaaPkC6
namespace Go.Proofs.Ytecffdgnmnpmbaa
open Go
section
variable {P : Program} {md : Region.Mode} {ops : Array Oper} {Q : Exit → Act → World → Prop} {S : World → Prop} {n : Nat}
theorem skA (i : Nat) {oi : Oper} {fuel : Nat} {listed : Array Bool} {a : Act} {w : World} (hS : S w)
    (h : wpAnyS P md ops Q S n fuel (listed.setIfInBounds i true) (a.put oi.dst undef) w) (hi0 : ops.toList[i]? = some oi := by rfl)
    (hk : (Region.noSelect ops && headB md ops n listed && Region.free md ops listed i && (Region.ready md ops listed).contains i && decide (ops.size ≤ n)) = true := by kernel_rfl)
    (hQ : ∀ c a w, Q (.panic c) (a.put oi.dst undef) w → Q (.panic c) a w := by exact fun _ _ _ h => h) (hw : Region.wanted oi (yielded ops a.tmps) = false := by rfl) : wpAnyS P md ops Q S n (fuel + 1) listed a w := by
  have hi : ops[i]? = some oi := by rw [← hi0, Array.getElem?_toList]
  simp only [Bool.and_eq_true, decide_eq_true_eq] at hk
  obtain ⟨⟨⟨⟨h1, h5⟩, h6⟩, h7⟩, h8⟩ := hk
  exact wpAnyS_firstA hi (Region.noSelect_spec h1) h8 hQ fuel listed a w (headB_spec h5) (Region.free_spec hi h6) (by simpa using h7) (.inr ⟨hw, rfl⟩) hS h
end
end Go.Proofs.Ytecffdgnmnpmbaa
