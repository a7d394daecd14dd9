/-
  Plain laws: what the document says of its rows is what the tables do: Set, All, Sum; sizes.
  No condition.
-/
import Derived.Test.YtljgifjokdppgaaRfRel
import Derived.Test.YtljgifjokdppgaaRfNew
namespace Go.Proofs.Ytljgifjokdppgaa
open Go Go.RowKit

theorem mget_set_self {T : MTab} {k : Int} {xs : List Int} (h : mget T k = some xs) (c : Nat) (x : Int) : mget (T.set k c x) k = some (xs.set c x) := by
  unfold mget MTab.set at *
  simp only [List.find?_map]
  have h1 : ((fun r : Int × List Int => r.1 == k) ∘ fun r : Int × List Int => if r.1 = k then (r.1, r.2.set c x) else r) = fun r => r.1 == k := by
    funext r
    simp only [Function.comp]
    split <;> rfl
  rw [h1]
  rw [Option.map_eq_some_iff] at h
  obtain ⟨r, hr, rfl⟩ := h
  have h2 := List.find?_some hr
  simp at h2
  rw [hr]
  simp [h2]
theorem mget_width {M : List MTab} (hg : Good M) {t k : Int} {xs : List Int} (h : mget (mtab M t) k = some xs) : xs.length = (mtab M t).1 := (hg.at t).width _ (mget_mem h)
theorem rel_set {M : List MTab} (hg : Good M) (t k c x : Int) (hg' : Good (mset M t k c x).1) : qset (colsN M) (flatM M) t k c x = (flatM (mset M t k c x).1, (mset M t k c x).2.1, decide ((mset M t k c x).2.2 = 0)) := by
  unfold qset mset at *
  rw [rel_cols, rel_get]
  by_cases hc : 0 ≤ c ∧ c < (mtab M t).1
  · rw [if_pos hc] at hg' ⊢
    rw [if_pos hc]
    have hn : (mtab M t).1 ≠ 0 := by omega
    cases hm : mget (mtab M t) k with
    | none => rfl
    | some xs =>
      rw [hm] at hg'
      simp only [Option.isSome_some, if_true] at hg' ⊢
      have hw := mget_width hg hm
      have hmay : qmay (colsN M) t (xs.set c.toNat x) = true := by
        unfold qmay
        rw [rel_cols, List.length_set, decide_eq_true_iff]
        omega
      rw [hmay]
      have : qput (colsN M) (flatM M) t k (xs.set c.toNat x) = flatM (M.set t.toNat ((mtab M t).set k c.toNat x)) := by
        refine sorted_ext_get (qput_sort hg.sort _ _ _) hg'.sort fun t' k' => ?_
        rw [qput_get hg.sort, rel_get, rel_get, hmay]
        by_cases e : t' = t ∧ k' = k
        · obtain ⟨rfl, rfl⟩ := e
          rw [if_pos ⟨rfl, rfl, rfl⟩, mtab_set_self hn, mget_set_self hm]
        · rw [if_neg fun h => e h.2]
          by_cases ht : t = t'
          · subst ht
            rw [mtab_set_self hn, mget_set_other _ (fun e' => e ⟨rfl, e'.symm⟩)]
          · rw [mtab_set_other hn ht]
      rw [this]
      rfl
  · rw [if_neg hc] at hg' ⊢
    rw [if_neg hc]
    rfl
theorem all_flatFrom (M : List MTab) (i : Nat) (t : Int) : (flatFrom i M).filter (fun r => r.1 == t) = if (i : Int) ≤ t then ((M[(t - i).toNat]?.getD (0, [])).2.map fun r => (t, r.1, r.2)) else [] := by
  induction M generalizing i with
  | nil => simp [flatFrom]
  | cons T M ih =>
    unfold flatFrom
    rw [List.filter_append, ih]
    by_cases h1 : (i : Int) = t
    · subst h1
      rw [List.filter_eq_self.2, if_neg (by omega), if_pos (by omega)]
      · simp
      · intro r hr
        rw [List.mem_map] at hr
        obtain ⟨x, _, rfl⟩ := hr
        simp
    · rw [List.filter_eq_nil_iff.2, List.nil_append]
      · by_cases h3 : (i : Int) ≤ t
        · rw [if_pos (by omega), if_pos h3]
          have : (t - (i : Int)).toNat = (t - ((i + 1 : Nat) : Int)).toNat + 1 := by omega
          rw [this, List.getElem?_cons_succ]
        · rw [if_neg (by omega), if_neg h3]
      · intro r hr
        rw [List.mem_map] at hr
        obtain ⟨x, _, rfl⟩ := hr
        simpa using h1
theorem rel_all (M : List MTab) (t : Int) : qall (flatM M) t = (mtab M t).2.map fun r => (t, r.1, r.2) := by
  unfold qall flatM mtab
  rw [all_flatFrom]
  by_cases h : 0 ≤ t
  · rw [if_pos (by omega), if_pos h, show (t - ((0 : Nat) : Int)).toNat = t.toNat by omega]
  · rw [if_neg (by omega), if_neg h]; rfl
def qadd (c : Int) (n : Int) (r : QR) : Int := if 0 ≤ c ∧ c < (r.2.2.length : Int) then wrap64 (n + r.2.2.getD c.toNat 0) else n
theorem qsumTo_fold (L : List QR) (t c : Int) (i : Nat) (hi : i ≤ L.length) : qsumTo L t c i = (qall (L.take i) t).foldl (qadd c) 0 := by
  induction i with
  | zero => rfl
  | succ i ih =>
    have hx := List.getElem?_eq_getElem (show i < L.length by omega)
    generalize L[i] = r at hx
    rw [qsumTo_next hx, qall_next hx, List.foldl_append, ← ih (by omega)]
    by_cases h1 : r.1 = t
    · have : (r.1 == t) = true := beq_iff_eq.2 h1
      rw [this]
      simp only [if_true, List.foldl_cons, List.foldl_nil]
      unfold qadd
      by_cases h2 : 0 ≤ c ∧ c < (r.2.2.length : Int)
      · rw [if_pos ⟨h1, h2⟩, if_pos h2]
      · rw [if_neg fun h => h2 h.2, if_neg h2]
    · have : (r.1 == t) = false := beq_eq_false_iff_ne.2 h1
      rw [this, if_neg fun h => h1 h.1]
      rfl
theorem rel_sum {M : List MTab} (hg : Good M) (t c : Int) : qsum (flatM M) t c = msum (mtab M t) c := by
  unfold qsum
  rw [qsumTo_fold _ _ _ _ (Nat.le_refl _), List.take_of_length_le (Nat.le_refl _), rel_all, List.foldl_map]
  have hw := (hg.at t).width
  unfold msum
  by_cases hc : 0 ≤ c ∧ c < ((mtab M t).1 : Int)
  · rw [if_pos hc]
    unfold sumTo
    rw [List.take_of_length_le (Nat.le_refl _)]
    suffices H : ∀ a : Int, (mtab M t).2.foldl (fun x y => qadd c x (t, y.1, y.2)) a = (mtab M t).2.foldl (fun n r => IntKind.i64.wrap (n + r.2.getD c.toNat 0)) a from H 0
    revert hw
    generalize (mtab M t).2 = l
    intro hw a
    induction l generalizing a with
    | nil => rfl
    | cons r l ih =>
      rw [List.foldl_cons, List.foldl_cons]
      have h1 := hw r List.mem_cons_self
      have h2 : qadd c a (t, r.1, r.2) = IntKind.i64.wrap (a + r.2.getD c.toNat 0) := by
        unfold qadd
        rw [if_pos ⟨hc.1, by show c < (r.2.length : Int); omega⟩, IntKind.wrap_i64]
        show wrap64 (a + r.2.getD c.toNat 0) = _
        unfold wrap64
        rfl
      rw [h2]
      exact ih (fun r hr => hw r (List.mem_cons_of_mem _ hr)) _
  · rw [if_neg hc]
    revert hw
    generalize (mtab M t).2 = l
    intro hw
    induction l with
    | nil => rfl
    | cons r l ih =>
      rw [List.foldl_cons]
      have h1 := hw r List.mem_cons_self
      have h2 : qadd c 0 (t, r.1, r.2) = 0 := by
        unfold qadd
        rw [if_neg fun h => hc ⟨h.1, by have := h.2; simp only at this; omega⟩]
      rw [h2]
      exact ih fun r hr => hw r (List.mem_cons_of_mem _ hr)
theorem len_flatFrom {M : List MTab} {B : Nat} (h : Few B M) (i : Nat) : (flatFrom i M).length ≤ M.length * B := by
  induction M generalizing i with
  | nil => simp [flatFrom]
  | cons T M ih =>
    unfold flatFrom
    rw [List.length_append, List.length_map, List.length_cons, Nat.succ_mul]
    have h1 := h T List.mem_cons_self
    have h2 := ih (fun T hT => h T (List.mem_cons_of_mem _ hT)) (i + 1)
    omega
theorem mem_flatFrom {M : List MTab} {i : Nat} {r : QR} (h : r ∈ flatFrom i M) : ∃ T ∈ M, (r.2.1, r.2.2) ∈ T.2 := by
  induction M generalizing i with
  | nil => cases h
  | cons T M ih =>
    unfold flatFrom at h
    rw [List.mem_append] at h
    rcases h with h | h
    · rw [List.mem_map] at h
      obtain ⟨x, hx, rfl⟩ := h
      exact ⟨T, List.mem_cons_self, hx⟩
    · obtain ⟨T', h1, h2⟩ := ih h
      exact ⟨T', List.mem_cons_of_mem _ h1, h2⟩
theorem qok_flat {M : List MTab} {B : Nat} (hg : Good M) (h : Few B M) (hB : B ≤ 1000) : QOk (colsN M) (flatM M) := by
  refine ⟨by simpa [colsN] using hg.few, ?_, ?_⟩
  · have h1 := len_flatFrom h 0
    have h2 : M.length * B ≤ 64 * 1000 := Nat.mul_le_mul hg.few hB
    show (flatFrom 0 M).length ≤ _
    omega
  · intro r hr
    obtain ⟨T, hT, hm⟩ := mem_flatFrom hr
    have h1 := (hg.tabs T hT).1
    have h2 := h1.width _ hm
    have h3 := h1.le
    simp only at h2
    omega
theorem colsN_put (M : List MTab) (t k : Int) (xs : List Int) : colsN (mput M t k xs).1 = colsN M := by
  have := cols_put M t k xs
  unfold colsOf at this
  unfold colsN
  have h : ∀ l : List MTab, l.map (fun T => (T.1 : Int)) = (l.map (·.1)).map (fun n : Nat => (n : Int)) := fun l => by simp
  rw [h, h, this]
theorem colsN_set (M : List MTab) (t k c x : Int) : colsN (mset M t k c x).1 = colsN M := by
  have := cols_set M t k c x
  unfold colsOf at this
  unfold colsN
  have h : ∀ l : List MTab, l.map (fun T => (T.1 : Int)) = (l.map (·.1)).map (fun n : Nat => (n : Int)) := fun l => by simp
  rw [h, h, this]
theorem colsN_del (M : List MTab) (t k : Int) : colsN (mdel M t k).1 = colsN M := by
  have := cols_del M t k
  unfold colsOf at this
  unfold colsN
  have h : ∀ l : List MTab, l.map (fun T => (T.1 : Int)) = (l.map (·.1)).map (fun n : Nat => (n : Int)) := fun l => by simp
  rw [h, h, this]
theorem flat_new (cols : List Int) : flatM (newMod cols) = [] := by
  have : ∀ i, flatFrom i (newMod cols) = [] := by
    induction cols with
    | nil => intro i; rfl
    | cons n cols ih => intro i; show [].map _ ++ flatFrom (i + 1) (newMod cols) = []; rw [ih]; rfl
  exact this 0
theorem colsN_new {cols : List Int} (h : colOk cols) : colsN (newMod cols) = cols := by
  unfold colsN newMod
  rw [List.map_map]
  conv => rhs; rw [← List.map_id cols]
  refine List.map_congr_left fun n hn => ?_
  have := h.2 n hn
  show ((n.toNat : Nat) : Int) = n
  omega
end Go.Proofs.Ytljgifjokdppgaa
