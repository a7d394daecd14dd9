/-
  Plain laws: what the document says of its rows is what the tables do.
  No condition.
-/
import Derived.Test.YtljgifjokdppgaaRfPure
namespace Go.Proofs.Ytljgifjokdppgaa
open Go Go.RowKit

theorem qposFrom_spec (t k : Int) (L : List QR) : ∀ n, n ≤ L.length → qposFrom t k L n ≤ n ∧ (∀ i r, qposFrom t k L n ≤ i → i < n → L[i]? = some r → qafter t k r = true) ∧ (qposFrom t k L n = 0 ∨ ∃ r, L[qposFrom t k L n - 1]? = some r ∧ qafter t k r = false)
  | 0, _ => ⟨Nat.le_refl _, fun i r _ h => by omega, .inl rfl⟩
  | n + 1, hn => by
    have hx := List.getElem?_eq_getElem (show n < L.length by omega)
    generalize L[n] = x at hx
    by_cases ha : qafter t k x = true
    · have e : qposFrom t k L (n + 1) = qposFrom t k L n := by
        show (if qafter t k (L[n]?.getD (0, 0, [])) then _ else _) = _
        rw [hx]
        exact if_pos ha
      obtain ⟨h1, h2, h3⟩ := qposFrom_spec t k L n (by omega)
      rw [e]
      refine ⟨by omega, fun i r hi hlt hr => ?_, h3⟩
      by_cases hin : i = n
      · subst hin
        rw [hx] at hr
        cases hr; exact ha
      · exact h2 i r hi (by omega) hr
    · have e : qposFrom t k L (n + 1) = n + 1 := by
        show (if qafter t k (L[n]?.getD (0, 0, [])) then _ else _) = _
        rw [hx]
        exact if_neg ha
      rw [e]
      exact ⟨Nat.le_refl _, fun i r _ _ => by omega, .inr ⟨x, by simpa using hx, by simpa using ha⟩⟩
theorem qafter_true {t k : Int} {r : QR} (h : qafter t k r = true) (xs : List Int) : qlt (t, k, xs) r := by
  rcases or_and_true (a := decide (t < r.1)) (b := r.1 == t) (c := decide (k < r.2.1)) h with h | ⟨_, h1, h2⟩
  · exact .inl (of_decide_eq_true h)
  · exact .inr ⟨(beq_iff_eq.1 h1).symm, of_decide_eq_true h2⟩
theorem qafter_false {t k : Int} {r : QR} (h : qafter t k r = false) (hn : qis t k r = false) (xs : List Int) : qlt r (t, k, xs) := by
  have hn' : ¬ (r.1 = t ∧ r.2.1 = k) := by
    intro ⟨e1, e2⟩
    rw [Bool.eq_false_iff] at hn
    exact hn (by simp [qis, e1, e2])
  rcases or_and_false (a := decide (t < r.1)) (b := r.1 == t) (c := decide (k < r.2.1)) (by rw [Bool.not_eq_true]; exact h) with ⟨h1, h2⟩ | ⟨h1, h2, h3⟩
  · have h1' := of_decide_eq_false h1
    have h2' : r.1 ≠ t := by rw [beq_eq_false_iff_ne] at h2; exact h2
    exact .inl (by show r.1 < t; omega)
  · have h2' := beq_iff_eq.1 h2
    have h3' := of_decide_eq_false h3
    exact .inr ⟨h2', by show r.2.1 < k; have : r.2.1 ≠ k := fun e => hn' ⟨h2', e⟩; omega⟩
theorem qins_parts {L : List QR} (h : QSort L) {t k : Int} (hno : ∀ r ∈ L, qis t k r = false) (xs : List Int) :
    (∀ r ∈ L.take (qpos t k L), qlt r (t, k, xs)) ∧ (∀ r ∈ L.drop (qpos t k L), qlt (t, k, xs) r) := by
  obtain ⟨h1, h2, h3⟩ := qposFrom_spec t k L L.length (Nat.le_refl _)
  constructor
  · intro r hr
    rcases h3 with h3 | ⟨y, hy, hya⟩
    · unfold qpos at hr; rw [h3] at hr; cases hr
    · have hyl := qafter_false hya (hno y (List.mem_of_getElem? hy)) xs
      obtain ⟨i, hi⟩ := List.getElem?_of_mem hr
      have hil : i < qpos t k L := by have := (List.getElem?_eq_some_iff.1 hi).1; simp at this; omega
      rw [List.getElem?_take, if_pos hil] at hi
      have hil2 : i < qposFrom t k L L.length := hil
      by_cases e : i = qposFrom t k L L.length - 1
      · rw [e, hy] at hi; cases hi; exact hyl
      · obtain ⟨hi1, rfl⟩ := List.getElem?_eq_some_iff.1 hi
        obtain ⟨hy1, rfl⟩ := List.getElem?_eq_some_iff.1 hy
        exact qlt_trans (List.pairwise_iff_getElem.1 h i _ hi1 hy1 (by omega)) hyl
  · intro r hr
    obtain ⟨i, hi⟩ := List.getElem?_of_mem hr
    rw [List.getElem?_drop] at hi
    have hil := (List.getElem?_eq_some_iff.1 hi).1
    exact qafter_true (h2 _ r (Nat.le_add_right _ _) hil hi) xs
theorem qins_sort {L : List QR} (h : QSort L) {t k : Int} (hno : ∀ r ∈ L, qis t k r = false) (xs : List Int) : QSort (qins L t k xs) := by
  obtain ⟨h1, h2⟩ := qins_parts h hno xs
  unfold QSort qins
  rw [List.pairwise_append, List.pairwise_cons]
  refine ⟨h.sublist (List.take_sublist _ _), ⟨h2, h.sublist (List.drop_sublist _ _)⟩, fun a ha b hb => ?_⟩
  rcases List.mem_cons.1 hb with rfl | hb
  · exact h1 a ha
  · exact qlt_trans (h1 a ha) (h2 b hb)
theorem qins_get {L : List QR} {t k : Int} (hno : ∀ r ∈ L, qis t k r = false) (xs : List Int) (t' k' : Int) : qget (qins L t k xs) t' k' = if t' = t ∧ k' = k then some xs else qget L t' k' := by
  unfold qget qins
  rw [List.find?_append]
  by_cases e : t' = t ∧ k' = k
  · obtain ⟨rfl, rfl⟩ := e
    rw [if_pos ⟨rfl, rfl⟩, List.find?_eq_none.2, Option.none_or, List.find?_cons_of_pos (by simp [qis])]
    · rfl
    · intro r hr
      rw [hno r (List.mem_of_mem_take hr)]; simp
  · rw [if_neg e, List.find?_cons_of_neg (by simp only [qis, Bool.and_eq_true, beq_iff_eq]; exact fun h => e ⟨h.1.symm, h.2.symm⟩), ← List.find?_append, List.take_append_drop]

def colsN (M : List MTab) : List Int := M.map fun T => (T.1 : Int)
theorem rel_cols (M : List MTab) (t : Int) : qcols (colsN M) t = (mtab M t).1 := by
  unfold qcols colsN mtab
  split
  · rw [List.getElem?_map]
    cases M[t.toNat]? <;> rfl
  · rfl
theorem qdel_no {L : List QR} (h : QSort L) (t k : Int) : ∀ r ∈ qdel L t k, qis t k r = false := by
  intro r hr
  rw [qdel_filter h, List.mem_filter] at hr
  simpa using hr.2
theorem qput_get {N : List Int} {L : List QR} (h : QSort L) (t k : Int) (xs : List Int) (t' k' : Int) : qget (qput N L t k xs) t' k' = if qmay N t xs = true ∧ t' = t ∧ k' = k then some xs else qget L t' k' := by
  unfold qput
  by_cases hm : qmay N t xs = true
  · rw [if_pos hm, qins_get (qdel_no h t k), qdel_get h]
    by_cases e : t' = t ∧ k' = k
    · rw [if_pos e, if_pos ⟨hm, e⟩]
    · rw [if_neg e, if_neg e, if_neg fun h => e h.2]
  · rw [if_neg hm, if_neg fun h => hm h.1]
theorem qput_sort {N : List Int} {L : List QR} (h : QSort L) (t k : Int) (xs : List Int) : QSort (qput N L t k xs) := by
  unfold qput
  split
  · exact qins_sort (qdel_sort h t k) (qdel_no h t k) xs
  · exact h
theorem rel_may (M : List MTab) (t k : Int) (xs : List Int) : qmay (colsN M) t xs = decide ((mput M t k xs).2 = 0) := by
  unfold qmay mput
  rw [rel_cols]
  by_cases h : (mtab M t).1 = 0 ∨ xs.length ≠ (mtab M t).1
  · rw [if_pos h, decide_eq_false (by omega)]
    rfl
  · rw [if_neg h, decide_eq_true (by omega)]
    rfl
theorem rel_put {M : List MTab} (hg : Good M) (t k : Int) (xs : List Int) (hg' : Good (mput M t k xs).1) : qput (colsN M) (flatM M) t k xs = flatM (mput M t k xs).1 := by
  refine sorted_ext_get (qput_sort hg.sort _ _ _) hg'.sort fun t' k' => ?_
  rw [qput_get hg.sort, rel_get, rel_get, rel_may M t k xs]
  by_cases e : t' = t ∧ k' = k
  · obtain ⟨rfl, rfl⟩ := e
    unfold mput
    by_cases h : (mtab M t').1 = 0 ∨ xs.length ≠ (mtab M t').1
    · rw [if_pos h, if_neg (by simp)]
    · rw [if_neg h, if_pos (by simp)]
      show _ = mget (mtab (M.set t'.toNat _) t') k'
      rw [mtab_set_self (by omega), mget_put_self]
  · rw [if_neg fun h => e h.2, keep_put (fun h => e ⟨h.1.symm, h.2.symm⟩)]
theorem rel_has {M : List MTab} (t k : Int) : qhas (flatM M) t k = (mget (mtab M t) k).isSome := by
  rw [← rel_get]
  unfold qhas
  rcases qat_spec (flatM M) t k with ⟨h1, h2⟩ | ⟨j, r, h1, h2, h3, h4⟩
  · rw [qget_none h2, h1]; rfl
  · rw [qget_some h2 h3 h4, h1]
    exact decide_eq_true (by omega)
theorem mdel_get {M : List MTab} (hg : Good M) (t k t' k' : Int) : mget (mtab (mdel M t k).1 t') k' = if t' = t ∧ k' = k then none else mget (mtab M t') k' := by
  by_cases e : t' = t ∧ k' = k
  · obtain ⟨rfl, rfl⟩ := e
    rw [if_pos ⟨rfl, rfl⟩]
    unfold mdel
    by_cases h0 : (mtab M t').1 = 0
    · rw [if_pos h0]
      by_cases hm : (mtab M t') ∈ M
      · have := (hg.tabs _ hm).2; omega
      · show mget (mtab M t') k' = none
        have : mtab M t' = (0, []) := by
          unfold mtab at hm ⊢
          split
          · rename_i h1
            rw [if_pos h1] at hm
            cases h2 : M[t'.toNat]? with
            | none => rfl
            | some T => rw [h2] at hm; exact absurd (List.mem_of_getElem? h2) hm
          · rfl
        rw [this]; rfl
    · rw [if_neg h0]
      by_cases hs : (mget (mtab M t') k').isSome = true
      · rw [if_pos hs]
        show mget (mtab (M.set t'.toNat _) t') k' = none
        rw [mtab_set_self h0, mget_del_self]
      · rw [if_neg hs]
        simpa using hs
  · rw [if_neg e, keep_del (fun h => e ⟨h.1.symm, h.2.symm⟩)]
theorem rel_del {M : List MTab} (hg : Good M) (t k : Int) (hg' : Good (mdel M t k).1) : qdel (flatM M) t k = flatM (mdel M t k).1 :=
  sorted_ext_get (qdel_sort hg.sort _ _) hg'.sort fun t' k' => by rw [qdel_get hg.sort, rel_get, rel_get, mdel_get hg]
theorem rel_del_ret {M : List MTab} (hg : Good M) (t k : Int) : (mdel M t k).2.1 = qhas (flatM M) t k ∧ (qhas (flatM M) t k || decide (0 < qcols (colsN M) t)) = decide ((mdel M t k).2.2 = 0) ∧ ((mdel M t k).2.2 = 0 ∨ (mdel M t k).2.2 = 2) := by
  rw [rel_has, rel_cols]
  unfold mdel
  by_cases h0 : (mtab M t).1 = 0
  · rw [if_pos h0, h0]
    have : mget (mtab M t) k = none := by
      have := mdel_get hg t k t k
      unfold mdel at this
      rw [if_pos h0, if_pos ⟨rfl, rfl⟩] at this
      exact this
    rw [this]
    exact ⟨rfl, rfl, .inr rfl⟩
  · rw [if_neg h0]
    have hd : decide ((0 : Int) < ((mtab M t).1 : Int)) = true := decide_eq_true (by omega)
    by_cases hs : (mget (mtab M t) k).isSome = true
    · rw [if_pos hs, hs]
      exact ⟨rfl, rfl, .inl rfl⟩
    · rw [if_neg hs]
      have hs' : (mget (mtab M t) k).isSome = false := by simpa using hs
      rw [hs', hd]
      exact ⟨rfl, rfl, .inl rfl⟩
end Go.Proofs.Ytljgifjokdppgaa
