/-
  A sorted row, each once. No program in sight.
  No condition.
-/
import Derived.Lib.SlicesCompact
import Derived.Test.YtokeciekncincabGreatPkC1
import Derived.Test.YtokeciekncincabGreatPkC23
import Derived.Sort.OwnSortedInts
namespace Go.Proofs.YtokeciekncincabGreat
open Go Go.RowKit Go.Sort

theorem compact_spec (zs : List Int) (hs : zs.Pairwise (· ≤ ·)) : Inc (Lib.compact zs) ∧ ∀ y, y ∈ Lib.compact zs ↔ y ∈ zs := by
  have hg : ∀ j, j < zs.length → zs.toArray[j]! = zs.getD j 0 := by
    intro j hj
    rw [getElem!_pos zs.toArray j (by simpa using hj)]
    simp [List.getD_eq_getElem?_getD, hj]
  have hle : ∀ i j, i ≤ j → j < zs.length → zs.getD i 0 ≤ zs.getD j 0 := by
    intro i j hij hj
    rcases Nat.lt_or_ge i j with h | h
    · have := List.pairwise_iff_getElem.1 hs i j (by omega) hj h
      simpa [List.getD_eq_getElem?_getD, hj, show i < zs.length by omega] using this
    · obtain rfl : i = j := by omega
      exact Int.le_refl _
  have key : ∀ m, m ≤ zs.length → Inc (Lib.compactUpTo zs.toArray m) ∧ ∀ y, y ∈ Lib.compactUpTo zs.toArray m ↔ ∃ j, j < m ∧ zs.getD j 0 = y := by
    intro m
    induction m with
    | zero => intro _; exact ⟨List.Pairwise.nil, fun y => ⟨(fun h => by cases h), fun ⟨j, h, _⟩ => by omega⟩⟩
    | succ m ih =>
      intro hm
      obtain ⟨h1, h2⟩ := ih (by omega)
      rw [Lib.compactUpTo_succ]
      cases hk : Lib.keeps zs.toArray m with
      | true =>
        rw [if_pos rfl, hg m (by omega)]
        refine ⟨List.pairwise_append.2 ⟨h1, by simp, fun a ha b hb => ?_⟩, fun y => ?_⟩
        · simp at hb; subst hb
          obtain ⟨j, hj, rfl⟩ := (h2 a).1 ha
          have hm0 : m ≠ 0 := by omega
          have hne : zs.getD m 0 ≠ zs.getD (m - 1) 0 := by
            unfold Lib.keeps at hk
            rw [decide_eq_true_eq, hg m (by omega), hg (m - 1) (by omega)] at hk
            rcases hk with h | h
            · omega
            · exact h
          have l1 := hle j (m - 1) (by omega) (by omega)
          have l2 := hle (m - 1) m (by omega) (by omega)
          simp only [List.getD_eq_getElem?_getD] at *
          omega
        · rw [List.mem_append, h2, List.mem_singleton]
          constructor
          · rintro (⟨j, hj, e⟩ | e)
            · exact ⟨j, by omega, e⟩
            · exact ⟨m, by omega, e.symm⟩
          · rintro ⟨j, hj, e⟩
            by_cases hjm : j = m
            · subst hjm; exact .inr e.symm
            · exact .inl ⟨j, by omega, e⟩
      | false =>
        rw [if_neg (by simp), List.append_nil]
        refine ⟨h1, fun y => ?_⟩
        rw [h2]
        have hm0 : m ≠ 0 := by
          intro e; subst e
          simp [Lib.keeps] at hk
        have he : zs.getD m 0 = zs.getD (m - 1) 0 := by
          unfold Lib.keeps at hk
          rw [decide_eq_false_iff_not, hg m (by omega), hg (m - 1) (by omega)] at hk
          exact Classical.byContradiction fun h => hk (.inr h)
        constructor
        · rintro ⟨j, hj, e⟩
          exact ⟨j, by omega, e⟩
        · rintro ⟨j, hj, e⟩
          by_cases hjm : j = m
          · subst hjm; exact ⟨j - 1, by omega, he.symm.trans e⟩
          · exact ⟨j, by omega, e⟩
  obtain ⟨h1, h2⟩ := key zs.length (Nat.le_refl _)
  refine ⟨h1, fun y => ?_⟩
  unfold Lib.compact
  rw [h2]
  constructor
  · rintro ⟨j, hj, e⟩
    rw [← e, List.getD_eq_getElem?_getD, List.getElem?_eq_getElem hj]
    exact List.getElem_mem hj
  · intro hy
    obtain ⟨j, hj⟩ := List.getElem?_of_mem hy
    exact ⟨j, (List.getElem?_eq_some_iff.1 hj).1, by rw [List.getD_eq_getElem?_getD, hj]; rfl⟩

theorem compact_len (zs : List Int) : (Lib.compact zs).length ≤ zs.length := by
  unfold Lib.compact Lib.compactUpTo
  rw [List.length_map]
  refine Nat.le_trans (List.length_filter_le _ _) (by simp)

theorem grow_none (w : World) : grow w #[] = w := by simp [grow]
end Go.Proofs.YtokeciekncincabGreat
