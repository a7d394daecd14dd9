/-
  Plain laws: what is got behind a change.
  No condition.
-/
import Derived.Test.YtljgifjokdppgaaRwSumPure
namespace Go.Proofs.Ytljgifjokdppgaa
open Go Go.RowKit

theorem find_filter_key {l : List (Int × List Int)} {p : Int × List Int → Bool} {k : Int} (h : ∀ r, r.1 = k → p r = true) : (l.filter p).find? (fun r => r.1 == k) = l.find? (fun r => r.1 == k) := by
  rw [List.find?_filter]
  congr 1
  funext a
  by_cases ha : a.1 = k
  · simp [ha, h a ha]
  · simp [ha]
theorem find_filter_none {l : List (Int × List Int)} {p : Int × List Int → Bool} {k : Int} (h : ∀ r, r.1 = k → p r = false) : (l.filter p).find? (fun r => r.1 == k) = none := by
  rw [List.find?_eq_none]
  intro r hr hk
  have h1 := (List.mem_filter.1 hr).2
  rw [h r (by simpa using hk)] at h1
  cases h1
theorem mget_put_self (T : MTab) (k : Int) (xs : List Int) : mget (T.put k xs) k = some xs := by
  unfold mget MTab.put
  simp only [List.find?_append]
  rw [find_filter_none (fun r hr => by simp [hr])]
  simp
theorem mget_put_other (T : MTab) {k key : Int} (h : k ≠ key) (xs : List Int) : mget (T.put k xs) key = mget T key := by
  unfold mget MTab.put
  simp only [List.find?_append]
  have h1 : ((k, xs) :: T.2.filter (fun r => decide (k < r.1))).find? (fun r => r.1 == key) = (T.2.filter (fun r => decide (k < r.1))).find? (fun r => r.1 == key) := by
    rw [List.find?_cons_of_neg]
    simpa using h
  rw [h1]
  rcases Int.lt_or_gt_of_ne h with hlt | hgt
  · rw [find_filter_none (p := fun r => decide (r.1 < k)) (fun r hr => by simp; omega), find_filter_key (fun r hr => by simp; omega)]
    rfl
  · rw [find_filter_key (p := fun r => decide (r.1 < k)) (fun r hr => by simp; omega), find_filter_none (fun r hr => by simp; omega)]
    simp
theorem mget_set_other (T : MTab) {k key : Int} (h : k ≠ key) (c : Nat) (x : Int) : mget (T.set k c x) key = mget T key := by
  unfold mget MTab.set
  simp only [List.find?_map]
  have h1 : ((fun r : Int × List Int => r.1 == key) ∘ fun r : Int × List Int => if r.1 = k then (r.1, r.2.set c x) else r) = fun r => r.1 == key := by
    funext r
    simp only [Function.comp]
    split <;> rfl
  rw [h1]
  cases hr : T.2.find? (fun r => r.1 == key) with
  | none => rfl
  | some r =>
    have h2 := List.find?_some hr
    simp at h2
    simp only [Option.map_some]
    rw [if_neg (by omega)]
theorem mget_del_self (T : MTab) (k : Int) : mget (T.del k) k = none := by
  unfold mget MTab.del
  simp only
  rw [find_filter_none (fun r hr => by simp [hr])]
  rfl
theorem mget_del_other (T : MTab) {k key : Int} (h : k ≠ key) : mget (T.del k) key = mget T key := by
  unfold mget MTab.del
  simp only
  rw [find_filter_key (fun r hr => by simp; omega)]
theorem mtab_set_other {M : List MTab} {i j : Int} (hi : (mtab M i).1 ≠ 0) (h : i ≠ j) (T : MTab) : mtab (M.set i.toNat T) j = mtab M j := by
  have h0 : 0 ≤ i := by
    unfold mtab at hi
    split at hi
    · assumption
    · exact absurd rfl hi
  unfold mtab
  split
  · rw [List.getElem?_set_ne (by omega)]
  · rfl
/-- What was got stays, whatever is done to other rows. -/
theorem keep_put {M : List MTab} {i k j key : Int} (h : ¬ (i = j ∧ k = key)) (xs : List Int) : mget (mtab (mput M i k xs).1 j) key = mget (mtab M j) key := by
  unfold mput
  split
  · rfl
  · rename_i hc
    rw [not_or] at hc
    by_cases hij : i = j
    · subst hij
      show mget (mtab (M.set i.toNat _) i) key = _
      rw [mtab_set_self hc.1, mget_put_other _ (fun e => h ⟨rfl, e⟩)]
    · show mget (mtab (M.set i.toNat _) j) key = _
      rw [mtab_set_other hc.1 hij]
theorem keep_set {M : List MTab} {i k j key : Int} (h : ¬ (i = j ∧ k = key)) (c x : Int) : mget (mtab (mset M i k c x).1 j) key = mget (mtab M j) key := by
  unfold mset
  split
  · rename_i hc
    have hn : (mtab M i).1 ≠ 0 := by omega
    split
    · by_cases hij : i = j
      · subst hij
        show mget (mtab (M.set i.toNat _) i) key = _
        rw [mtab_set_self hn, mget_set_other _ (fun e => h ⟨rfl, e⟩)]
      · show mget (mtab (M.set i.toNat _) j) key = _
        rw [mtab_set_other hn hij]
    · rfl
  · rfl
theorem keep_del {M : List MTab} {i k j key : Int} (h : ¬ (i = j ∧ k = key)) : mget (mtab (mdel M i k).1 j) key = mget (mtab M j) key := by
  unfold mdel
  split
  · rfl
  · rename_i hn
    split
    · by_cases hij : i = j
      · subst hij
        show mget (mtab (M.set i.toNat _) i) key = _
        rw [mtab_set_self hn, mget_del_other _ (fun e => h ⟨rfl, e⟩)]
      · show mget (mtab (M.set i.toNat _) j) key = _
        rw [mtab_set_other hn hij]
    · rfl
end Go.Proofs.Ytljgifjokdppgaa
