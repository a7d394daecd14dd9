/-
  Plain laws: tables of which the same is got are the same; tables filled from others.
  No condition.
-/
import Derived.Test.YtljgifjokdppgaaRfRel2
namespace Go.Proofs.Ytljgifjokdppgaa
open Go Go.RowKit

theorem tab_ext {T T' : MTab} (h : GoodT T) (h' : GoodT T') (hc : T.1 = T'.1) (hm : ∀ k, mget T k = mget T' k) : T = T' := by
  have hs : ∀ {U : MTab}, GoodT U → QSort (U.2.map fun r => ((0 : Int), r.1, r.2)) := by
    intro U hU
    unfold QSort
    rw [List.pairwise_map]
    exact hU.sorted.imp fun {a b} hab => .inr ⟨rfl, hab⟩
  have hg : ∀ (U : MTab) (t k : Int), qget (U.2.map fun r => ((0 : Int), r.1, r.2)) t k = if t = 0 then mget U k else none := by
    intro U t k
    unfold qget mget
    rw [List.find?_map]
    by_cases ht : t = 0
    · subst ht
      rw [if_pos rfl]
      have : (qis 0 k ∘ fun r : Int × List Int => ((0 : Int), r.1, r.2)) = fun r => r.1 == k := by
        funext r; simp [qis, Function.comp]
      rw [this]
      cases U.2.find? fun r => r.1 == k <;> rfl
    · rw [if_neg ht, List.find?_eq_none.2]
      · rfl
      · intro r _
        simp [qis, Function.comp]
        intro e; exact absurd e.symm ht
  have he := sorted_ext_get (hs h) (hs h') fun t k => by rw [hg, hg, hm]
  have h2 : T.2 = T'.2 := by
    have h3 : ∀ l : List (Int × List Int), (l.map fun r => ((0 : Int), r.1, r.2)).map (fun r : QR => r.2) = l := by
      intro l
      rw [List.map_map]
      exact List.map_id l
    have := congrArg (List.map fun r : QR => r.2) he
    rwa [h3, h3] at this
  exact Prod.ext hc h2
theorem model_ext {M M' : List MTab} (h : Good M) (h' : Good M') (hc : colsOf M = colsOf M') (hm : ∀ t k, mget (mtab M t) k = mget (mtab M' t) k) : M = M' := by
  have hl : M.length = M'.length := by have := congrArg List.length hc; simpa [colsOf] using this
  apply List.ext_getElem hl
  intro i h1 h2
  have e1 : mtab M (i : Int) = M[i] := by unfold mtab; rw [if_pos (by omega)]; simp [h1]
  have e2 : mtab M' (i : Int) = M'[i] := by unfold mtab; rw [if_pos (by omega)]; simp [h2]
  refine tab_ext (h.tabs _ (List.getElem_mem h1)).1 (h'.tabs _ (List.getElem_mem h2)).1 ?_ fun k => ?_
  · have h3 : (colsOf M)[i]? = (colsOf M')[i]? := by rw [hc]
    simpa [colsOf, h1, h2] using h3
  · have := hm i k
    rwa [e1, e2] at this
theorem colsOf_of_N {M M' : List MTab} (h : colsN M = colsN M') : colsOf M = colsOf M' := by
  have h3 : ∀ l : List MTab, (colsN l).map Int.toNat = colsOf l := by
    intro l
    unfold colsN colsOf
    rw [List.map_map]
    exact List.map_congr_left fun T _ => Int.toNat_natCast T.1
  have := congrArg (List.map Int.toNat) h
  rwa [h3, h3] at this
theorem flat_inj {M M' : List MTab} (h : Good M) (h' : Good M') : (colsN M = colsN M' ∧ flatM M = flatM M') ↔ M = M' := by
  constructor
  · intro ⟨h1, h2⟩
    exact model_ext h h' (colsOf_of_N h1) fun t k => by rw [← rel_get, ← rel_get, h2]
  · intro e; subst e; exact ⟨rfl, rfl⟩
theorem mput_get {M : List MTab} {t k : Int} {xs : List Int} (hok : (mput M t k xs).2 = 0) (t' k' : Int) : mget (mtab (mput M t k xs).1 t') k' = if t' = t ∧ k' = k then some xs else mget (mtab M t') k' := by
  by_cases e : t' = t ∧ k' = k
  · obtain ⟨rfl, rfl⟩ := e
    rw [if_pos ⟨rfl, rfl⟩]
    unfold mput at *
    by_cases h : (mtab M t').1 = 0 ∨ xs.length ≠ (mtab M t').1
    · rw [if_pos h] at hok; simp at hok
    · rw [if_neg h]
      show mget (mtab (M.set t'.toNat _) t') k' = _
      rw [mtab_set_self (by omega), mget_put_self]
  · rw [if_neg e, keep_put (fun h => e ⟨h.1.symm, h.2.symm⟩)]
/-- Of B is got what is got of M in the tables ahead of k, and in table k of the rows behind i. -/
def Filled (M B : List MTab) (k : Nat) (rows : List (Int × List Int)) : Prop :=
  ∀ t' k', mget (mtab B t') k' = if t' < k then mget (mtab M t') k' else if t' = k then (rows.find? fun r => r.1 == k').map (·.2) else none
theorem filled_put {M B : List MTab} {k : Nat} {r : Int × List Int} {rows : List (Int × List Int)} (h : Filled M B k rows) (hok : (mput B k r.1 r.2).2 = 0) : Filled M (mput B k r.1 r.2).1 k (r :: rows) := by
  intro t' k'
  rw [mput_get hok]
  by_cases e : t' = k ∧ k' = r.1
  · obtain ⟨rfl, rfl⟩ := e
    rw [if_pos ⟨rfl, rfl⟩, if_neg (by omega), if_pos rfl, List.find?_cons_of_pos (by simp)]
    rfl
  · rw [if_neg e, h t' k']
    by_cases h1 : t' < k
    · rw [if_pos h1, if_pos h1]
    · rw [if_neg h1, if_neg h1]
      by_cases h2 : t' = k
      · rw [if_pos h2, if_pos h2, List.find?_cons_of_neg]
        intro e2
        exact e ⟨h2, by simpa using (beq_iff_eq.1 e2).symm⟩
      · rw [if_neg h2, if_neg h2]
theorem filled_next {M B : List MTab} {k : Nat} (h : Filled M B k (mtab M k).2) : Filled M B (k + 1) [] := by
  intro t' k'
  rw [h t' k']
  by_cases h1 : t' < k
  · rw [if_pos h1, if_pos (by omega)]
  · rw [if_neg h1]
    by_cases h2 : t' = k
    · subst h2
      rw [if_pos rfl, if_pos (by omega)]
      rfl
    · rw [if_neg h2, if_neg (by omega)]
      split <;> rfl
theorem filled_all {M B : List MTab} (hM : Good M) (hB : Good B) (hc : colsOf B = colsOf M) (h : Filled M B M.length []) : B = M := by
  refine model_ext hB hM hc fun t k => ?_
  rw [h t k]
  by_cases h1 : t < M.length
  · rw [if_pos h1]
  · rw [if_neg h1]
    have : mtab M t = (0, []) := by
      unfold mtab
      split
      · rw [List.getElem?_eq_none (by omega)]; rfl
      · rfl
    rw [this]
    split <;> rfl
theorem filled_new {M : List MTab} (cols : List Int) : Filled M (newMod cols) 0 [] := by
  intro t' k'
  have : mget (mtab (newMod cols) t') k' = none := by
    rw [← rel_get, flat_new]
    rfl
  rw [this]
  by_cases h : t' < ((0 : Nat) : Int)
  · rw [if_pos h]
    have : mtab M t' = (0, []) := by unfold mtab; rw [if_neg (by omega)]
    rw [this]; rfl
  · rw [if_neg h]
    split <;> rfl
end Go.Proofs.Ytljgifjokdppgaa
