/-
  Plain laws of the sum of a column.
  Plain laws: what is got behind a change.
-/
import Derived.Test.YtjpenaodkfljhaaRwApi
namespace Go.Proofs.Ytjpenaodkfljhaa
open Go Go.RowKit

theorem wrap_add (a b : Int) : wrap64 (wrap64 a + b) = wrap64 (a + b) := by unfold wrap64; omega
theorem wrap_sub (a b : Int) : wrap64 (wrap64 a - b) = wrap64 (a - b) := by unfold wrap64; omega
def colSum (l : List (Int × List Int)) (c : Nat) : Int := (l.map fun r => r.2.getD c 0).sum
theorem foldl_wrap (l : List (Int × List Int)) (c : Nat) (a : Int) : l.foldl (fun n r => IntKind.i64.wrap (n + r.2.getD c 0)) (wrap64 a) = wrap64 (a + colSum l c) := by
  induction l generalizing a with
  | nil => simp [colSum]
  | cons r l ih =>
    rw [List.foldl_cons]
    have : IntKind.i64.wrap (wrap64 a + r.2.getD c 0) = wrap64 (a + r.2.getD c 0) := by
      rw [← wrap_add a]
      simp [IntKind.wrap_i64, wrap64]
    rw [this, ih]
    simp only [colSum, List.map_cons, List.sum_cons]
    congr 1; omega
theorem sumTo_eq (T : MTab) (c k : Nat) : sumTo T c k = wrap64 (colSum (T.2.take k) c) := by
  have := foldl_wrap (T.2.take k) c 0
  unfold sumTo
  rw [show wrap64 0 = 0 by unfold wrap64; omega] at this
  rw [this, Int.zero_add]
theorem colSum_set {l : List (Int × List Int)} (hs : l.Pairwise fun a b => a.1 < b.1) {k : Int} {old : List Int} {c : Nat} (hc : c < old.length) (hm : (k, old) ∈ l) (x : Int) :
    colSum (l.map fun r => if r.1 = k then (r.1, r.2.set c x) else r) c = colSum l c - old.getD c 0 + x := by
  induction l with
  | nil => cases hm
  | cons r l ih =>
    have hp := List.pairwise_cons.1 hs
    simp only [colSum, List.map_cons, List.sum_cons] at ih ⊢
    rcases List.mem_cons.1 hm with rfl | hm
    · have hrest : (l.map fun r => if r.1 = k then (r.1, r.2.set c x) else r) = l := by
        conv => rhs; rw [← List.map_id l]
        apply List.map_congr_left
        intro y hy
        have : y.1 ≠ k := by have := hp.1 y hy; simp at this; omega
        simp [this]
      rw [hrest]
      have h1 : (if (k, old).1 = k then ((k, old).1, (k, old).2.set c x) else (k, old)).2.getD c 0 = x := by simp [hc]
      rw [h1]
      show x + _ = old.getD c 0 + _ - old.getD c 0 + x
      omega
    · have hne : r.1 ≠ k := by have := hp.1 _ hm; simp at this; omega
      have := ih hp.2 hm
      simp only [hne, if_false]
      omega
theorem mget_mem {T : MTab} {k : Int} {xs : List Int} (h : mget T k = some xs) : (k, xs) ∈ T.2 := by
  unfold mget at h
  rw [Option.map_eq_some_iff] at h
  obtain ⟨r, hr, rfl⟩ := h
  have h1 := List.find?_some hr
  have h2 := List.mem_of_find?_eq_some hr
  simp at h1
  rw [← h1]
  exact h2
theorem wrap_sub_add (a b c : Int) : wrap64 (wrap64 a - b + c) = wrap64 (a - b + c) := by unfold wrap64; omega
theorem msum_set {T : MTab} (hT : GoodT T) {k : Int} {old : List Int} (h : mget T k = some old) {c : Nat} (hc : c < T.1) (x : Int) :
    msum (T.set k c x) c = wrap64 (wrap64 (msum T c - old.getD c 0) + x) := by
  have hm := mget_mem h
  have hw := hT.width _ hm
  have h1 : msum T c = wrap64 (colSum T.2 c) := by
    unfold msum
    rw [if_pos ⟨by omega, by omega⟩, sumTo_eq, List.take_of_length_le (by simp)]
    rfl
  have h2 : msum (T.set k c x) c = wrap64 (colSum (T.set k c x).2 c) := by
    unfold msum
    have : (T.set k c x).1 = T.1 := rfl
    rw [this, if_pos ⟨by omega, by omega⟩, sumTo_eq, List.take_of_length_le (by simp)]
    rfl
  rw [h1, h2, wrap_add, wrap_sub_add]
  congr 1
  exact colSum_set hT.sorted (by rw [hw]; exact hc) hm x
def colsOf (M : List MTab) : List Nat := M.map (·.1)
theorem colsOf_set {M : List MTab} {i : Nat} {T : MTab} (h : T.1 = (M[i]?.getD (0, [])).1) : colsOf (M.set i T) = colsOf M := by
  unfold colsOf
  apply List.ext_getElem?
  intro j
  simp only [List.getElem?_map, List.getElem?_set]
  by_cases hj : i = j
  · subst hj
    simp only [if_true]
    by_cases hl : i < M.length
    · simp [hl] at h ⊢; exact h
    · simp [hl]
  · simp [hj]
theorem mtab_nn {M : List MTab} {i : Int} (h : (mtab M i).1 ≠ 0) : mtab M i = M[i.toNat]?.getD (0, []) := by
  unfold mtab at *
  split
  · rfl
  · rename_i hn; rw [if_neg hn] at h; exact absurd rfl h
theorem cols_put (M : List MTab) (i k : Int) (cols : List Int) : colsOf (mput M i k cols).1 = colsOf M := by
  unfold mput
  split
  · rfl
  · rename_i h
    rw [not_or] at h
    exact colsOf_set (by rw [← mtab_nn h.1]; rfl)
theorem cols_set (M : List MTab) (i k c x : Int) : colsOf (mset M i k c x).1 = colsOf M := by
  unfold mset
  split
  · rename_i h
    split
    · exact colsOf_set (by rw [← mtab_nn (by omega)]; rfl)
    · rfl
  · rfl
theorem cols_del (M : List MTab) (i k : Int) : colsOf (mdel M i k).1 = colsOf M := by
  unfold mdel
  split
  · rfl
  · rename_i h
    split
    · exact colsOf_set (by rw [← mtab_nn h]; rfl)
    · rfl
theorem mtab_cols (M : List MTab) (i : Nat) : (mtab M i).1 = ((colsOf M)[i]?).getD 0 := by
  unfold mtab colsOf
  rw [if_pos (by omega)]
  simp only [Int.toNat_natCast, List.getElem?_map]
  cases M[i]? <;> rfl
theorem mtab_set_self {M : List MTab} {i : Int} (h : (mtab M i).1 ≠ 0) (T : MTab) : mtab (M.set i.toNat T) i = T := by
  have hm := h
  unfold mtab at hm ⊢
  split
  · rename_i h0
    rw [if_pos h0] at hm
    have hl : i.toNat < M.length := by
      rcases Nat.lt_or_ge i.toNat M.length with h | h
      · exact h
      · rw [List.getElem?_eq_none h] at hm; exact absurd rfl hm
    simp [hl]
  · rename_i h0; rw [if_neg h0] at hm; exact absurd rfl hm
end Go.Proofs.Ytjpenaodkfljhaa
namespace Go.Proofs.Ytjpenaodkfljhaa
open Go Go.RowKit

theorem find_filter_key {l : List (Int × List Int)} {p : Int × List Int → Bool} {k : Int} (h : ∀ r, r.1 = k → p r = true) : (l.filter p).find? (fun r => r.1 == k) = l.find? (fun r => r.1 == k) := by
  rw [List.find?_filter]
  congr 1
  funext a
  by_cases ha : a.1 = k
  · simp [ha, h a ha]
  · simp [ha]
theorem find_filter_none {l : List (Int × List Int)} {p : Int × List Int → Bool} {k : Int} (h : ∀ r, r.1 = k → p r = false) : (l.filter p).find? (fun r => r.1 == k) = none := by
  rw [List.find?_eq_none]
  intro r hr hk
  have h1 := (List.mem_filter.1 hr).2
  rw [h r (by simpa using hk)] at h1
  cases h1
theorem mget_put_self (T : MTab) (k : Int) (xs : List Int) : mget (T.put k xs) k = some xs := by
  unfold mget MTab.put
  simp only [List.find?_append]
  rw [find_filter_none (fun r hr => by simp [hr])]
  simp
theorem mget_put_other (T : MTab) {k key : Int} (h : k ≠ key) (xs : List Int) : mget (T.put k xs) key = mget T key := by
  unfold mget MTab.put
  simp only [List.find?_append]
  have h1 : ((k, xs) :: T.2.filter (fun r => decide (k < r.1))).find? (fun r => r.1 == key) = (T.2.filter (fun r => decide (k < r.1))).find? (fun r => r.1 == key) := by
    rw [List.find?_cons_of_neg]
    simpa using h
  rw [h1]
  rcases Int.lt_or_gt_of_ne h with hlt | hgt
  · rw [find_filter_none (p := fun r => decide (r.1 < k)) (fun r hr => by simp; omega), find_filter_key (fun r hr => by simp; omega)]
    rfl
  · rw [find_filter_key (p := fun r => decide (r.1 < k)) (fun r hr => by simp; omega), find_filter_none (fun r hr => by simp; omega)]
    simp
theorem mget_set_other (T : MTab) {k key : Int} (h : k ≠ key) (c : Nat) (x : Int) : mget (T.set k c x) key = mget T key := by
  unfold mget MTab.set
  simp only [List.find?_map]
  have h1 : ((fun r : Int × List Int => r.1 == key) ∘ fun r : Int × List Int => if r.1 = k then (r.1, r.2.set c x) else r) = fun r => r.1 == key := by
    funext r
    simp only [Function.comp]
    split <;> rfl
  rw [h1]
  cases hr : T.2.find? (fun r => r.1 == key) with
  | none => rfl
  | some r =>
    have h2 := List.find?_some hr
    simp at h2
    simp only [Option.map_some]
    rw [if_neg (by omega)]
theorem mget_del_self (T : MTab) (k : Int) : mget (T.del k) k = none := by
  unfold mget MTab.del
  simp only
  rw [find_filter_none (fun r hr => by simp [hr])]
  rfl
theorem mget_del_other (T : MTab) {k key : Int} (h : k ≠ key) : mget (T.del k) key = mget T key := by
  unfold mget MTab.del
  simp only
  rw [find_filter_key (fun r hr => by simp; omega)]
theorem mtab_set_other {M : List MTab} {i j : Int} (hi : (mtab M i).1 ≠ 0) (h : i ≠ j) (T : MTab) : mtab (M.set i.toNat T) j = mtab M j := by
  have h0 : 0 ≤ i := by
    unfold mtab at hi
    split at hi
    · assumption
    · exact absurd rfl hi
  unfold mtab
  split
  · rw [List.getElem?_set_ne (by omega)]
  · rfl
/-- What was got stays, whatever is done to other rows. -/
theorem keep_put {M : List MTab} {i k j key : Int} (h : ¬ (i = j ∧ k = key)) (xs : List Int) : mget (mtab (mput M i k xs).1 j) key = mget (mtab M j) key := by
  unfold mput
  split
  · rfl
  · rename_i hc
    rw [not_or] at hc
    by_cases hij : i = j
    · subst hij
      show mget (mtab (M.set i.toNat _) i) key = _
      rw [mtab_set_self hc.1, mget_put_other _ (fun e => h ⟨rfl, e⟩)]
    · show mget (mtab (M.set i.toNat _) j) key = _
      rw [mtab_set_other hc.1 hij]
theorem keep_set {M : List MTab} {i k j key : Int} (h : ¬ (i = j ∧ k = key)) (c x : Int) : mget (mtab (mset M i k c x).1 j) key = mget (mtab M j) key := by
  unfold mset
  split
  · rename_i hc
    have hn : (mtab M i).1 ≠ 0 := by omega
    split
    · by_cases hij : i = j
      · subst hij
        show mget (mtab (M.set i.toNat _) i) key = _
        rw [mtab_set_self hn, mget_set_other _ (fun e => h ⟨rfl, e⟩)]
      · show mget (mtab (M.set i.toNat _) j) key = _
        rw [mtab_set_other hn hij]
    · rfl
  · rfl
theorem keep_del {M : List MTab} {i k j key : Int} (h : ¬ (i = j ∧ k = key)) : mget (mtab (mdel M i k).1 j) key = mget (mtab M j) key := by
  unfold mdel
  split
  · rfl
  · rename_i hn
    split
    · by_cases hij : i = j
      · subst hij
        show mget (mtab (M.set i.toNat _) i) key = _
        rw [mtab_set_self hn, mget_del_other _ (fun e => h ⟨rfl, e⟩)]
      · show mget (mtab (M.set i.toNat _) j) key = _
        rw [mtab_set_other hn hij]
    · rfl
end Go.Proofs.Ytjpenaodkfljhaa
