/-
  A heap of integers, as container/heap keeps it: plain Lean.
  No condition.
-/
import Derived.Test.YtkeiphmhckkniaaWtKit
import Derived.Test.YtkeiphmhckkniaaWtFarP
namespace Go.Proofs.Ytkeiphmhckkniaa
open Go Go.RowKit

def swapI (l : List Int) (i j : Nat) : List Int := (l.set i (l.getD j 0)).set j (l.getD i 0)
theorem swapI_len (l : List Int) (i j : Nat) : (swapI l i j).length = l.length := by simp [swapI]
theorem swapI_getD {l : List Int} {i j k : Nat} (hi : i < l.length) (hj : j < l.length) : (swapI l i j).getD k 0 = if k = j then l.getD i 0 else if k = i then l.getD j 0 else l.getD k 0 := by
  unfold swapI
  rw [getD_set (by simpa using hj)]
  by_cases e : k = j
  · rw [if_pos e, if_pos e]
  · rw [if_neg e, if_neg e, getD_set hi]
theorem swapI_perm {l : List Int} {i j : Nat} (hi : i < l.length) (hj : j < l.length) : (swapI l i j).Perm l := by
  have key : ∀ a b : Nat, a < b → b < l.length → (swapI l a b).Perm l := by
    intro a b hab hb
    have e1 : l = l.take a ++ l[a] :: (l.drop (a + 1)) := by rw [← List.drop_eq_getElem_cons (by omega), List.take_append_drop]
    obtain ⟨A, x, R, hA, rfl⟩ : ∃ A x R, A.length = a ∧ l = A ++ x :: R := ⟨l.take a, l[a], l.drop (a + 1), by simp; omega, e1⟩
    subst hA
    have hb2 : b - A.length - 1 < R.length := by simp at hb; omega
    obtain ⟨B, y, C, hB, rfl⟩ : ∃ B y C, B.length = b - A.length - 1 ∧ R = B ++ y :: C := ⟨R.take (b - A.length - 1), R[b - A.length - 1], R.drop (b - A.length - 1 + 1), by simp; omega, by rw [← List.drop_eq_getElem_cons hb2, List.take_append_drop]⟩
    obtain rfl : b = A.length + (B.length + 1) := by omega
    have g1 : (A ++ x :: (B ++ y :: C)).getD A.length 0 = x := by simp [List.getD_eq_getElem?_getD]
    have g2 : (A ++ x :: (B ++ y :: C)).getD (A.length + (B.length + 1)) 0 = y := by
      rw [List.getD_eq_getElem?_getD, List.getElem?_append_right (by omega)]
      simp
    have e : swapI (A ++ x :: (B ++ y :: C)) A.length (A.length + (B.length + 1)) = A ++ y :: (B ++ x :: C) := by
      unfold swapI
      rw [g1, g2, List.set_append_right _ _ (by omega), List.set_append_right _ _ (by omega)]
      simp
    rw [e]
    refine List.Perm.append_left A ?_
    have p1 : (y :: (B ++ x :: C)).Perm (y :: x :: (B ++ C)) := List.Perm.cons y List.perm_middle
    have p2 : (x :: (B ++ y :: C)).Perm (x :: y :: (B ++ C)) := List.Perm.cons x List.perm_middle
    exact p1.trans ((List.Perm.swap x y _).trans p2.symm)
  rcases Nat.lt_trichotomy i j with h | rfl | h
  · exact key i j h hj
  · have : swapI l i i = l := by
      unfold swapI
      refine List.ext_getElem (by simp) fun n h1 h2 => ?_
      by_cases e : n = i
      · subst e; simp [List.getD_eq_getElem?_getD, h2]
      · rw [List.getElem_set_ne (fun h => e h.symm), List.getElem_set_ne (fun h => e h.symm)]
    rw [this]
  · have e : swapI l i j = swapI l j i := by
      refine List.ext_getElem (by simp [swapI]) fun n h1 h2 => ?_
      have q := swapI_getD (k := n) hi hj
      have q2 := swapI_getD (k := n) hj hi
      rw [List.getD_eq_getElem?_getD, List.getElem?_eq_getElem h1] at q
      rw [List.getD_eq_getElem?_getD, List.getElem?_eq_getElem h2] at q2
      simp only [Option.getD_some] at q q2
      rw [q, q2]
      by_cases a : n = j
      · subst a
        rw [if_pos rfl, if_neg (by omega), if_pos rfl]
      · rw [if_neg a]
        by_cases b : n = i
        · rw [if_pos b, if_pos b]
        · rw [if_neg b, if_neg b, if_neg a]
    rw [e]; exact key j i h hi
/-- Each one is no less than who stands above it: the first n. -/
def HeapN (l : List Int) (n : Nat) : Prop := ∀ k, 0 < k → k < n → l.getD ((k - 1) / 2) 0 ≤ l.getD k 0
/-- All is well but at j, which may be too small. -/
structure HeapUp (l : List Int) (j : Nat) : Prop where
  rest : ∀ k, 0 < k → k < l.length → k ≠ j → l.getD ((k - 1) / 2) 0 ≤ l.getD k 0
  over : ∀ k, 0 < k → k < l.length → (k - 1) / 2 = j → 0 < j → l.getD ((j - 1) / 2) 0 ≤ l.getD k 0
/-- All is well but at i, which may be too great: the first n. -/
structure HeapDn (l : List Int) (n i : Nat) : Prop where
  rest : ∀ k, 0 < k → k < n → (k - 1) / 2 ≠ i → l.getD ((k - 1) / 2) 0 ≤ l.getD k 0
  over : ∀ k, 0 < k → k < n → (k - 1) / 2 = i → 0 < i → l.getD ((i - 1) / 2) 0 ≤ l.getD k 0
theorem HeapUp.done {l : List Int} {j : Nat} (h : HeapUp l j) (hj : j = 0 ∨ l.getD ((j - 1) / 2) 0 ≤ l.getD j 0) : HeapN l l.length := fun k h0 hk => by
  by_cases e : k = j
  · subst e
    rcases hj with hj | hj
    · omega
    · exact hj
  · exact h.rest k h0 hk e
theorem HeapUp.step {l : List Int} {j : Nat} (h : HeapUp l j) (hj : j < l.length) (h0 : 0 < j) (hlt : l.getD j 0 < l.getD ((j - 1) / 2) 0) : HeapUp (swapI l ((j - 1) / 2) j) ((j - 1) / 2) := by
  have hi : (j - 1) / 2 < l.length := by omega
  have g := fun k => swapI_getD (l := l) (k := k) hi hj
  refine ⟨fun k k0 hk hne => ?_, fun k k0 hk hp hi0 => ?_⟩
  · rw [swapI_len] at hk
    rw [g, g]
    by_cases e1 : k = j
    · subst e1
      rw [if_pos rfl, if_neg (by omega), if_pos rfl]; omega
    · rw [if_neg e1, if_neg hne]
      by_cases e2 : (k - 1) / 2 = j
      · rw [if_pos e2]; exact h.over k k0 hk e2 h0
      · rw [if_neg e2]
        have h2 := h.rest k k0 hk e1
        by_cases e3 : (k - 1) / 2 = (j - 1) / 2
        · rw [if_pos e3]; rw [e3] at h2; omega
        · rw [if_neg e3]; exact h2
  · rw [swapI_len] at hk
    rw [g, g, if_neg (by omega : ¬ ((j - 1) / 2 - 1) / 2 = j), if_neg (by omega : ¬ ((j - 1) / 2 - 1) / 2 = (j - 1) / 2)]
    have h1 := h.rest ((j - 1) / 2) hi0 hi (by omega)
    by_cases e1 : k = j
    · rw [if_pos e1]; exact h1
    · rw [if_neg e1, if_neg (by omega)]
      have h2 := h.rest k k0 hk e1
      rw [hp] at h2
      omega
theorem HeapUp.push {l : List Int} (h : HeapN l l.length) (x : Int) : HeapUp (l ++ [x]) l.length := by
  have g : ∀ k, k < l.length → (l ++ [x]).getD k 0 = l.getD k 0 := fun k hk => by
    rw [List.getD_eq_getElem?_getD, List.getElem?_append_left hk, ← List.getD_eq_getElem?_getD]
  refine ⟨fun k k0 hk hne => ?_, fun k k0 hk hp h0 => ?_⟩
  · simp at hk
    rw [g _ (by omega), g _ (by omega)]; exact h k k0 (by omega)
  · simp at hk; omega
theorem HeapN.min {l : List Int} {n : Nat} (h : HeapN l n) : ∀ k, k < n → l.getD 0 0 ≤ l.getD k 0 := by
  intro k
  induction k using Nat.strongRecOn with
  | ind k ih =>
    intro hk
    rcases Nat.eq_zero_or_pos k with rfl | h0
    · exact Int.le_refl _
    · have h1 := h k h0 hk
      have h2 := ih ((k - 1) / 2) (by omega) (by omega)
      omega
theorem HeapDn.done {l : List Int} {n i : Nat} (h : HeapDn l n i) (hi : ∀ k, 0 < k → k < n → (k - 1) / 2 = i → l.getD i 0 ≤ l.getD k 0) : HeapN l n := fun k h0 hk => by
  by_cases e : (k - 1) / 2 = i
  · rw [e]; exact hi k h0 hk e
  · exact h.rest k h0 hk e
/-- The lesser child, j. -/
theorem HeapDn.step {l : List Int} {n i j : Nat} (h : HeapDn l n i) (hn : n ≤ l.length) (hj : j < n) (h0 : 0 < j) (hp : (j - 1) / 2 = i) (hlt : l.getD j 0 < l.getD i 0) (hmin : ∀ k, 0 < k → k < n → (k - 1) / 2 = i → l.getD j 0 ≤ l.getD k 0) : HeapDn (swapI l i j) n j := by
  have hi : i < l.length := by omega
  have g := fun k => swapI_getD (l := l) (k := k) hi (by omega : j < l.length)
  refine ⟨fun k k0 hk hne => ?_, fun k k0 hk hp2 _ => ?_⟩
  · rw [g, g, if_neg hne]
    by_cases e1 : k = j
    · subst e1
      rw [if_pos rfl, if_pos hp]; omega
    · rw [if_neg e1]
      by_cases e2 : (k - 1) / 2 = i
      · rw [if_pos e2, if_neg (by omega)]; exact hmin k k0 hk e2
      · rw [if_neg e2]
        have h2 := h.rest k k0 hk e2
        by_cases e3 : k = i
        · rw [if_pos e3]
          have h3 := h.over j h0 hj hp (by omega)
          rw [e3]; exact h3
        · rw [if_neg e3]; exact h2
  · rw [g, g, if_neg (by omega : ¬ (j - 1) / 2 = j), if_pos hp, if_neg (by omega), if_neg (by omega)]
    have h2 := h.rest k k0 hk (by omega)
    rw [hp2] at h2
    exact h2
/-- What a pop leaves ahead of the sift: the first and the last are exchanged. -/
theorem HeapDn.pop {l : List Int} {n : Nat} (hl : l.length = n + 1) (h : HeapN l (n + 1)) : HeapDn (swapI l 0 n) n 0 := by
  have g := fun k => swapI_getD (l := l) (k := k) (by omega : 0 < l.length) (by omega : n < l.length)
  refine ⟨fun k k0 hk hne => ?_, fun k k0 hk hp h0 => by omega⟩
  rw [g, g, if_neg (by omega), if_neg hne, if_neg (by omega), if_neg (by omega)]
  exact h k k0 (by omega)
/-- A part at the head turned among itself, what is behind it as it was. -/
structure SameTo (l l' : List Int) (n : Nat) : Prop where
  len : l'.length = l.length
  perm : l'.Perm l
  tail : ∀ k, n ≤ k → l'.getD k 0 = l.getD k 0
theorem SameTo.refl (l : List Int) (n : Nat) : SameTo l l n := ⟨rfl, .refl _, fun _ _ => rfl⟩
theorem SameTo.swap {l l' : List Int} {n i j : Nat} (h : SameTo l l' n) (hi : i < n) (hj : j < n) (hn : n ≤ l.length) : SameTo l (swapI l' i j) n := by
  have hl := h.len
  refine ⟨by rw [swapI_len, hl], (swapI_perm (by omega) (by omega)).trans h.perm, fun k hk => ?_⟩
  rw [swapI_getD (by omega) (by omega), if_neg (by omega), if_neg (by omega)]
  exact h.tail k hk
/-- What is left behind a pop. -/
theorem pop_rest {l l' : List Int} {n : Nat} (hl : l.length = n + 1) (h : SameTo (swapI l 0 n) l' n) : l'.getD n 0 = l.getD 0 0 ∧ l' = l'.take n ++ [l.getD 0 0] ∧ (l.getD 0 0 :: l'.take n).Perm l := by
  have hlen : l'.length = n + 1 := by rw [h.len, swapI_len, hl]
  have e1 : l'.getD n 0 = l.getD 0 0 := by
    rw [h.tail n (Nat.le_refl _), swapI_getD (by omega) (by omega), if_pos rfl]
  have e2 : l' = l'.take n ++ [l.getD 0 0] := by
    have h3 : l' = l'.take n ++ l'.drop n := (List.take_append_drop n l').symm
    rw [List.drop_eq_getElem_cons (by omega), List.drop_eq_nil_of_le (by omega)] at h3
    have h4 : l'[n] = l.getD 0 0 := by
      rw [← e1, List.getD_eq_getElem?_getD, List.getElem?_eq_getElem (by omega)]; rfl
    rw [h4] at h3
    exact h3
  refine ⟨e1, e2, ?_⟩
  have p1 : (l.getD 0 0 :: l'.take n).Perm (l'.take n ++ [l.getD 0 0]) := (List.perm_append_singleton _ _).symm
  rw [← e2] at p1
  exact p1.trans (h.perm.trans (swapI_perm (by omega) (by omega)))
theorem HeapN.take {l : List Int} {n : Nat} (h : HeapN l n) (hn : n ≤ l.length) : HeapN (l.take n) (l.take n).length := fun k h0 hk => by
  have hk2 : k < n := by rw [List.length_take] at hk; omega
  have g : ∀ j, j < n → (l.take n).getD j 0 = l.getD j 0 := fun j hj => by
    rw [List.getD_eq_getElem?_getD, List.getElem?_take_of_lt hj, ← List.getD_eq_getElem?_getD]
  rw [g _ (by omega), g _ hk2]
  exact h k h0 hk2
theorem HeapN.nil : HeapN [] 0 := fun _ _ h => by omega
end Go.Proofs.Ytkeiphmhckkniaa
