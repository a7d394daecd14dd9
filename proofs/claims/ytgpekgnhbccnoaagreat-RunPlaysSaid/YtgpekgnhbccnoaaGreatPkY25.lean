/-
 Plain laws: the document's rows and the tables are the same.
 Plain laws: what the document says of its rows is what the tables do.
 Plain laws: what the document says of its rows is what the tables do: Set, All, Sum; sizes.
 The document's rows as a thing that lies apart.
 No condition but sizes.
 What the tables and the document's rows tell of a table, side by side.
 No condition.
-/
import Derived.Test.YtgpekgnhbccnoaaGreatPkY24
import Derived.Test.YtgpekgnhbccnoaaGreatPkY10
import Derived.Test.YtgpekgnhbccnoaaGreatPkY1
namespace Go.Proofs.YtgpekgnhbccnoaaGreat
open Go Go.RowKit

def qlt (a b : QR) : Prop := a.1 < b.1 ∨ (a.1 = b.1 ∧ a.2.1 < b.2.1)
theorem qlt_trans {a b c : QR} (h1 : qlt a b) (h2 : qlt b c) : qlt a c := by unfold qlt at *; omega
theorem qlt_irrefl (a : QR) : ¬ qlt a a := by unfold qlt; omega
def QSort (L : List QR) : Prop := L.Pairwise qlt
def flatFrom : Nat → List MTab → List QR
 | _, [] => []
 | i, T :: M => T.2.map (fun r => ((i : Int), r.1, r.2)) ++ flatFrom (i + 1) M
def flatM (M : List MTab) : List QR := flatFrom 0 M

theorem flatFrom_ge {M : List MTab} {i : Nat} {r : QR} (h : r ∈ flatFrom i M) : (i : Int) ≤ r.1 := by
 induction M generalizing i with
 | nil => cases h
 | cons T M ih =>
  unfold flatFrom at h
  rw [List.mem_append] at h
  rcases h with h | h
  ·rw [List.mem_map] at h
   obtain ⟨x, _, rfl⟩ := h
   exact Int.le_refl _
  ·have := ih h; omega
theorem sort_flatFrom {M : List MTab} (h : ∀ T ∈ M, T.2.Pairwise fun a b => a.1 < b.1) (i : Nat) : QSort (flatFrom i M) := by
 induction M generalizing i with
 | nil => exact List.Pairwise.nil
 | cons T M ih =>
  unfold flatFrom QSort
  rw [List.pairwise_append]
  refine ⟨?_, ih (fun T hT => h T (List.mem_cons_of_mem _ hT)) _, ?_⟩
  ·rw [List.pairwise_map]
   exact (h T (List.mem_cons_self)).imp fun {a b} hab => .inr ⟨rfl, hab⟩
  ·intro a ha b hb
   rw [List.mem_map] at ha
   obtain ⟨x, _, rfl⟩ := ha
   have := flatFrom_ge hb
   exact .inl (by show (i : Int) < b.1; omega)
theorem Good.sort {M : List MTab} (h : Good M) : QSort (flatM M) := sort_flatFrom (fun T hT => (h.tabs T hT).1.sorted) 0
theorem get_flatFrom (M : List MTab) (i : Nat) (t k : Int) : (flatFrom i M).find? (qis t k) = ((if (i : Int) ≤ t then M[(t - i).toNat]? else none).bind fun T => T.2.find? fun r => r.1 == k).map fun r => (t, r.1, r.2) := by
 induction M generalizing i with
 | nil => simp [flatFrom]
 | cons T M ih =>
  unfold flatFrom
  rw [List.find?_append, ih]
  by_cases h1 : (i : Int) = t
  ·subst h1
   have h2 : (T.2.map (fun r => ((i : Int), r.1, r.2))).find? (qis (i : Int) k) = (T.2.find? fun r => r.1 == k).map fun r => ((i : Int), r.1, r.2) := by
    rw [List.find?_map]
    congr 2
    funext r
    simp [qis, Function.comp]
   have h3 : (if ((i + 1 : Nat) : Int) ≤ (i : Int) then M[((i : Int) - ((i + 1 : Nat) : Int)).toNat]? else none) = none := by rw [if_neg (by omega)]
   rw [h2, h3]
   simp
  ·have h2 : (T.2.map (fun r => ((i : Int), r.1, r.2))).find? (qis t k) = none := by
    rw [List.find?_eq_none]
    intro r hr
    rw [List.mem_map] at hr
    obtain ⟨x, _, rfl⟩ := hr
    simp [qis, h1]
   rw [h2, Option.none_or]
   by_cases h3 : (i : Int) ≤ t
   ·rw [if_pos (by omega), if_pos h3]
    have : (t - (i : Int)).toNat = (t - ((i + 1 : Nat) : Int)).toNat + 1 := by omega
    rw [this, List.getElem?_cons_succ]
   ·rw [if_neg (by omega), if_neg h3]
theorem rel_get (M : List MTab) (t k : Int) : qget (flatM M) t k = mget (mtab M t) k := by
 unfold qget flatM mget mtab
 rw [get_flatFrom]
 by_cases h : 0 ≤ t
 ·rw [if_pos (by omega), if_pos h, show (t - ((0 : Nat) : Int)).toNat = t.toNat by omega]
  cases M[t.toNat]? with
  | none => rfl
  | some T =>
   simp only [Option.bind_some, Option.getD_some]
   cases T.2.find? fun r => r.1 == k <;> rfl
 ·rw [if_neg (by omega), if_neg h]
  rfl

/-- Sorted rows of which the same is got are the same. -/
theorem qget_mem {L : List QR} (h : QSort L) {r : QR} : r ∈ L ↔ qget L r.1 r.2.1 = some r.2.2 := by
 constructor
 ·intro hr
  have : L.find? (qis r.1 r.2.1) = some r := by
   induction L with
   | nil => cases hr
   | cons x L ih =>
    unfold QSort at h
    rw [List.pairwise_cons] at h
    rcases List.mem_cons.1 hr with rfl | hr
    ·rw [List.find?_cons_of_pos (by simp [qis])]
    ·rw [List.find?_cons_of_neg, ih h.2 hr]
     have := h.1 r hr
     simp only [qis, Bool.and_eq_true, beq_iff_eq, not_and]
     intro e1 e2
     rcases this with h1 | ⟨_, h1⟩ <;> omega
  unfold qget
  rw [this]
  rfl
 ·intro hr
  unfold qget at hr
  rw [Option.map_eq_some_iff] at hr
  obtain ⟨x, hx, e⟩ := hr
  have h1 := List.find?_some hx
  have h2 := List.mem_of_find?_eq_some hx
  simp only [qis, Bool.and_eq_true, beq_iff_eq] at h1
  have : x = r := Prod.ext h1.1 (Prod.ext h1.2 e)
  rw [← this]; exact h2
theorem sorted_ext : ∀ {L L' : List QR}, QSort L → QSort L' → (∀ r, r ∈ L ↔ r ∈ L') → L = L'
 | [], [], _, _, _ => rfl
 | [], x :: L', _, _, h => absurd ((h x).2 List.mem_cons_self) (by simp)
 | x :: L, [], _, _, h => absurd ((h x).1 List.mem_cons_self) (by simp)
 | x :: L, y :: L', h1, h2, h => by
  unfold QSort at h1 h2
  rw [List.pairwise_cons] at h1 h2
  have hxy : x = y := by
   rcases List.mem_cons.1 ((h x).1 List.mem_cons_self) with e | hx
   ·exact e
   ·rcases List.mem_cons.1 ((h y).2 List.mem_cons_self) with e | hy
    ·exact e.symm
    ·exact absurd (qlt_trans (h1.1 y hy) (h2.1 x hx)) (qlt_irrefl _)
  subst hxy
  congr 1
  refine sorted_ext h1.2 h2.2 fun r => ⟨fun hr => ?_, fun hr => ?_⟩
  ·rcases List.mem_cons.1 ((h r).1 (List.mem_cons_of_mem _ hr)) with e | hr'
   ·subst e; exact absurd (h1.1 _ hr) (qlt_irrefl _)
   ·exact hr'
  ·rcases List.mem_cons.1 ((h r).2 (List.mem_cons_of_mem _ hr)) with e | hr'
   ·subst e; exact absurd (h2.1 _ hr) (qlt_irrefl _)
   ·exact hr'
theorem sorted_ext_get {L L' : List QR} (h1 : QSort L) (h2 : QSort L') (h : ∀ t k, qget L t k = qget L' t k) : L = L' :=
 sorted_ext h1 h2 fun r => by rw [qget_mem h1, qget_mem h2, h]

theorem qdel_filter {L : List QR} (h : QSort L) (t k : Int) : qdel L t k = L.filter fun r => !qis t k r := by
 unfold qdel
 rcases qat_spec L t k with ⟨h1, h2⟩ | ⟨j, r, h1, h2, h3, h4⟩
 ·rw [if_pos h1, List.filter_eq_self.2]
  intro r hr
  rw [h2 r hr]; rfl
 ·rw [if_neg (by omega), h1]
  obtain ⟨hs, hl⟩ := split_at h2
  have hjj : ((j : Int)).toNat = j := by omega
  rw [hjj, List.eraseIdx_eq_take_drop_succ]
  conv => rhs; rw [hs]
  rw [List.filter_append, List.filter_cons]
  have e1 : (!qis t k r) = false := by rw [h3]; rfl
  rw [e1]
  simp only [Bool.false_eq_true, if_false]
  congr 1
  ·rw [List.filter_eq_self.2]
   intro x hx
   obtain ⟨i, hi⟩ := List.getElem?_of_mem hx
   have hij : i < j := by have := (List.getElem?_eq_some_iff.1 hi).1; simp at this; omega
   rw [List.getElem?_take, if_pos hij] at hi
   rw [h4 i x hij hi]; rfl
  ·rw [List.filter_eq_self.2]
   intro x hx
   have hp : qlt r x := by
    unfold QSort at h
    rw [hs, List.pairwise_append, List.pairwise_cons] at h
    exact h.2.1.1 x hx
   have : qis t k x = false := by
    simp only [qis, Bool.and_eq_true, beq_iff_eq] at h3
    rw [Bool.eq_false_iff]
    intro e
    simp only [qis, Bool.and_eq_true, beq_iff_eq] at e
    rcases hp with h5 | ⟨_, h5⟩ <;> omega
   rw [this]; rfl
theorem qdel_sort {L : List QR} (h : QSort L) (t k : Int) : QSort (qdel L t k) := by
 rw [qdel_filter h]
 exact List.Pairwise.filter _ h
theorem qdel_get {L : List QR} (h : QSort L) (t k t' k' : Int) : qget (qdel L t k) t' k' = if t' = t ∧ k' = k then none else qget L t' k' := by
 rw [qdel_filter h]
 unfold qget
 rw [List.find?_filter]
 by_cases e : t' = t ∧ k' = k
 ·obtain ⟨rfl, rfl⟩ := e
  rw [if_pos ⟨rfl, rfl⟩, List.find?_eq_none.2]
  ·rfl
  ·intro r _
   cases qis t' k' r <;> simp
 ·rw [if_neg e]
  congr 2
  funext r
  by_cases h1 : qis t' k' r = true
  ·have h2 : qis t k r = false := by
    simp only [qis, Bool.and_eq_true, beq_iff_eq] at h1
    rw [Bool.eq_false_iff]
    intro h2
    simp only [qis, Bool.and_eq_true, beq_iff_eq] at h2
    exact e ⟨by omega, by omega⟩
   rw [h1, h2]; rfl
  ·have h2 : qis t' k' r = false := by simpa using h1
   rw [h2]; simp
end Go.Proofs.YtgpekgnhbccnoaaGreat
namespace Go.Proofs.YtgpekgnhbccnoaaGreat
open Go Go.RowKit

theorem qposFrom_spec (t k : Int) (L : List QR) : ∀ n, n ≤ L.length → qposFrom t k L n ≤ n ∧ (∀ i r, qposFrom t k L n ≤ i → i < n → L[i]? = some r → qafter t k r = true) ∧ (qposFrom t k L n = 0 ∨ ∃ r, L[qposFrom t k L n - 1]? = some r ∧ qafter t k r = false)
 | 0, _ => ⟨Nat.le_refl _, fun i r _ h => by omega, .inl rfl⟩
 | n + 1, hn => by
  have hx := List.getElem?_eq_getElem (show n < L.length by omega)
  generalize L[n] = x at hx
  by_cases ha : qafter t k x = true
  ·have e : qposFrom t k L (n + 1) = qposFrom t k L n := by
    show (if qafter t k (L[n]?.getD (0, 0, [])) then _ else _) = _
    rw [hx]
    exact if_pos ha
   obtain ⟨h1, h2, h3⟩ := qposFrom_spec t k L n (by omega)
   rw [e]
   refine ⟨by omega, fun i r hi hlt hr => ?_, h3⟩
   by_cases hin : i = n
   ·subst hin
    rw [hx] at hr
    cases hr; exact ha
   ·exact h2 i r hi (by omega) hr
  ·have e : qposFrom t k L (n + 1) = n + 1 := by
    show (if qafter t k (L[n]?.getD (0, 0, [])) then _ else _) = _
    rw [hx]
    exact if_neg ha
   rw [e]
   exact ⟨Nat.le_refl _, fun i r _ _ => by omega, .inr ⟨x, by simpa using hx, by simpa using ha⟩⟩
theorem qafter_true {t k : Int} {r : QR} (h : qafter t k r = true) (xs : List Int) : qlt (t, k, xs) r := by
 rcases or_and_true (a := decide (t < r.1)) (b := r.1 == t) (c := decide (k < r.2.1)) h with h | ⟨_, h1, h2⟩
 ·exact .inl (of_decide_eq_true h)
 ·exact .inr ⟨(beq_iff_eq.1 h1).symm, of_decide_eq_true h2⟩
theorem qafter_false {t k : Int} {r : QR} (h : qafter t k r = false) (hn : qis t k r = false) (xs : List Int) : qlt r (t, k, xs) := by
 have hn' : ¬ (r.1 = t ∧ r.2.1 = k) := by
  intro ⟨e1, e2⟩
  rw [Bool.eq_false_iff] at hn
  exact hn (by simp [qis, e1, e2])
 rcases or_and_false (a := decide (t < r.1)) (b := r.1 == t) (c := decide (k < r.2.1)) (by rw [Bool.not_eq_true]; exact h) with ⟨h1, h2⟩ | ⟨h1, h2, h3⟩
 ·have h1' := of_decide_eq_false h1
  have h2' : r.1 ≠ t := by rw [beq_eq_false_iff_ne] at h2; exact h2
  exact .inl (by show r.1 < t; omega)
 ·have h2' := beq_iff_eq.1 h2
  have h3' := of_decide_eq_false h3
  exact .inr ⟨h2', by show r.2.1 < k; have : r.2.1 ≠ k := fun e => hn' ⟨h2', e⟩; omega⟩
theorem qins_parts {L : List QR} (h : QSort L) {t k : Int} (hno : ∀ r ∈ L, qis t k r = false) (xs : List Int) :
  (∀ r ∈ L.take (qpos t k L), qlt r (t, k, xs)) ∧ (∀ r ∈ L.drop (qpos t k L), qlt (t, k, xs) r) := by
 obtain ⟨h1, h2, h3⟩ := qposFrom_spec t k L L.length (Nat.le_refl _)
 constructor
 ·intro r hr
  rcases h3 with h3 | ⟨y, hy, hya⟩
  ·unfold qpos at hr; rw [h3] at hr; cases hr
  ·have hyl := qafter_false hya (hno y (List.mem_of_getElem? hy)) xs
   obtain ⟨i, hi⟩ := List.getElem?_of_mem hr
   have hil : i < qpos t k L := by have := (List.getElem?_eq_some_iff.1 hi).1; simp at this; omega
   rw [List.getElem?_take, if_pos hil] at hi
   have hil2 : i < qposFrom t k L L.length := hil
   by_cases e : i = qposFrom t k L L.length - 1
   ·rw [e, hy] at hi; cases hi; exact hyl
   ·obtain ⟨hi1, rfl⟩ := List.getElem?_eq_some_iff.1 hi
    obtain ⟨hy1, rfl⟩ := List.getElem?_eq_some_iff.1 hy
    exact qlt_trans (List.pairwise_iff_getElem.1 h i _ hi1 hy1 (by omega)) hyl
 ·intro r hr
  obtain ⟨i, hi⟩ := List.getElem?_of_mem hr
  rw [List.getElem?_drop] at hi
  have hil := (List.getElem?_eq_some_iff.1 hi).1
  exact qafter_true (h2 _ r (Nat.le_add_right _ _) hil hi) xs
theorem qins_sort {L : List QR} (h : QSort L) {t k : Int} (hno : ∀ r ∈ L, qis t k r = false) (xs : List Int) : QSort (qins L t k xs) := by
 obtain ⟨h1, h2⟩ := qins_parts h hno xs
 unfold QSort qins
 rw [List.pairwise_append, List.pairwise_cons]
 refine ⟨h.sublist (List.take_sublist _ _), ⟨h2, h.sublist (List.drop_sublist _ _)⟩, fun a ha b hb => ?_⟩
 rcases List.mem_cons.1 hb with rfl | hb
 ·exact h1 a ha
 ·exact qlt_trans (h1 a ha) (h2 b hb)
theorem qins_get {L : List QR} {t k : Int} (hno : ∀ r ∈ L, qis t k r = false) (xs : List Int) (t' k' : Int) : qget (qins L t k xs) t' k' = if t' = t ∧ k' = k then some xs else qget L t' k' := by
 unfold qget qins
 rw [List.find?_append]
 by_cases e : t' = t ∧ k' = k
 ·obtain ⟨rfl, rfl⟩ := e
  rw [if_pos ⟨rfl, rfl⟩, List.find?_eq_none.2, Option.none_or, List.find?_cons_of_pos (by simp [qis])]
  ·rfl
  ·intro r hr
   rw [hno r (List.mem_of_mem_take hr)]; simp
 ·rw [if_neg e, List.find?_cons_of_neg (by simp only [qis, Bool.and_eq_true, beq_iff_eq]; exact fun h => e ⟨h.1.symm, h.2.symm⟩), ← List.find?_append, List.take_append_drop]

def colsN (M : List MTab) : List Int := M.map fun T => (T.1 : Int)
theorem rel_cols (M : List MTab) (t : Int) : qcols (colsN M) t = (mtab M t).1 := by
 unfold qcols colsN mtab
 split
 ·rw [List.getElem?_map]
  cases M[t.toNat]? <;> rfl
 ·rfl
theorem qdel_no {L : List QR} (h : QSort L) (t k : Int) : ∀ r ∈ qdel L t k, qis t k r = false := by
 intro r hr
 rw [qdel_filter h, List.mem_filter] at hr
 simpa using hr.2
theorem qput_get {N : List Int} {L : List QR} (h : QSort L) (t k : Int) (xs : List Int) (t' k' : Int) : qget (qput N L t k xs) t' k' = if qmay N t xs = true ∧ t' = t ∧ k' = k then some xs else qget L t' k' := by
 unfold qput
 by_cases hm : qmay N t xs = true
 ·rw [if_pos hm, qins_get (qdel_no h t k), qdel_get h]
  by_cases e : t' = t ∧ k' = k
  ·rw [if_pos e, if_pos ⟨hm, e⟩]
  ·rw [if_neg e, if_neg e, if_neg fun h => e h.2]
 ·rw [if_neg hm, if_neg fun h => hm h.1]
theorem qput_sort {N : List Int} {L : List QR} (h : QSort L) (t k : Int) (xs : List Int) : QSort (qput N L t k xs) := by
 unfold qput
 split
 ·exact qins_sort (qdel_sort h t k) (qdel_no h t k) xs
 ·exact h
theorem rel_may (M : List MTab) (t k : Int) (xs : List Int) : qmay (colsN M) t xs = decide ((mput M t k xs).2 = 0) := by
 unfold qmay mput
 rw [rel_cols]
 by_cases h : (mtab M t).1 = 0 ∨ xs.length ≠ (mtab M t).1
 ·rw [if_pos h, decide_eq_false (by omega)]
  rfl
 ·rw [if_neg h, decide_eq_true (by omega)]
  rfl
theorem rel_put {M : List MTab} (hg : Good M) (t k : Int) (xs : List Int) (hg' : Good (mput M t k xs).1) : qput (colsN M) (flatM M) t k xs = flatM (mput M t k xs).1 := by
 refine sorted_ext_get (qput_sort hg.sort _ _ _) hg'.sort fun t' k' => ?_
 rw [qput_get hg.sort, rel_get, rel_get, rel_may M t k xs]
 by_cases e : t' = t ∧ k' = k
 ·obtain ⟨rfl, rfl⟩ := e
  unfold mput
  by_cases h : (mtab M t').1 = 0 ∨ xs.length ≠ (mtab M t').1
  ·rw [if_pos h, if_neg (by simp)]
  ·rw [if_neg h, if_pos (by simp)]
   show _ = mget (mtab (M.set t'.toNat _) t') k'
   rw [mtab_set_self (by omega), mget_put_self]
 ·rw [if_neg fun h => e h.2, keep_put (fun h => e ⟨h.1.symm, h.2.symm⟩)]
theorem mdel_get {M : List MTab} (hg : Good M) (t k t' k' : Int) : mget (mtab (mdel M t k).1 t') k' = if t' = t ∧ k' = k then none else mget (mtab M t') k' := by
 by_cases e : t' = t ∧ k' = k
 ·obtain ⟨rfl, rfl⟩ := e
  rw [if_pos ⟨rfl, rfl⟩]
  unfold mdel
  by_cases h0 : (mtab M t').1 = 0
  ·rw [if_pos h0]
   by_cases hm : (mtab M t') ∈ M
   ·have := (hg.tabs _ hm).2; omega
   ·show mget (mtab M t') k' = none
    have : mtab M t' = (0, []) := by
     unfold mtab at hm ⊢
     split
     ·rename_i h1
      rw [if_pos h1] at hm
      cases h2 : M[t'.toNat]? with
      | none => rfl
      | some T => rw [h2] at hm; exact absurd (List.mem_of_getElem? h2) hm
     ·rfl
    rw [this]; rfl
  ·rw [if_neg h0]
   by_cases hs : (mget (mtab M t') k').isSome = true
   ·rw [if_pos hs]
    show mget (mtab (M.set t'.toNat _) t') k' = none
    rw [mtab_set_self h0, mget_del_self]
   ·rw [if_neg hs]
    simpa using hs
 ·rw [if_neg e, keep_del (fun h => e ⟨h.1.symm, h.2.symm⟩)]
theorem rel_del {M : List MTab} (hg : Good M) (t k : Int) (hg' : Good (mdel M t k).1) : qdel (flatM M) t k = flatM (mdel M t k).1 :=
 sorted_ext_get (qdel_sort hg.sort _ _) hg'.sort fun t' k' => by rw [qdel_get hg.sort, rel_get, rel_get, mdel_get hg]
end Go.Proofs.YtgpekgnhbccnoaaGreat
namespace Go.Proofs.YtgpekgnhbccnoaaGreat
open Go Go.RowKit

theorem mget_set_self {T : MTab} {k : Int} {xs : List Int} (h : mget T k = some xs) (c : Nat) (x : Int) : mget (T.set k c x) k = some (xs.set c x) := by
 unfold mget MTab.set at *
 simp only [List.find?_map]
 have h1 : ((fun r : Int × List Int => r.1 == k) ∘ fun r : Int × List Int => if r.1 = k then (r.1, r.2.set c x) else r) = fun r => r.1 == k := by
  funext r
  simp only [Function.comp]
  split <;> rfl
 rw [h1]
 rw [Option.map_eq_some_iff] at h
 obtain ⟨r, hr, rfl⟩ := h
 have h2 := List.find?_some hr
 simp at h2
 rw [hr]
 simp [h2]
theorem mget_width {M : List MTab} (hg : Good M) {t k : Int} {xs : List Int} (h : mget (mtab M t) k = some xs) : xs.length = (mtab M t).1 := (hg.at t).width _ (mget_mem h)
theorem rel_set {M : List MTab} (hg : Good M) (t k c x : Int) (hg' : Good (mset M t k c x).1) : qset (colsN M) (flatM M) t k c x = (flatM (mset M t k c x).1, (mset M t k c x).2.1, decide ((mset M t k c x).2.2 = 0)) := by
 unfold qset mset at *
 rw [rel_cols, rel_get]
 by_cases hc : 0 ≤ c ∧ c < (mtab M t).1
 ·rw [if_pos hc] at hg' ⊢
  rw [if_pos hc]
  have hn : (mtab M t).1 ≠ 0 := by omega
  cases hm : mget (mtab M t) k with
  | none => rfl
  | some xs =>
   rw [hm] at hg'
   simp only [Option.isSome_some, if_true] at hg' ⊢
   have hw := mget_width hg hm
   have hmay : qmay (colsN M) t (xs.set c.toNat x) = true := by
    unfold qmay
    rw [rel_cols, List.length_set, decide_eq_true_iff]
    omega
   rw [hmay]
   have : qput (colsN M) (flatM M) t k (xs.set c.toNat x) = flatM (M.set t.toNat ((mtab M t).set k c.toNat x)) := by
    refine sorted_ext_get (qput_sort hg.sort _ _ _) hg'.sort fun t' k' => ?_
    rw [qput_get hg.sort, rel_get, rel_get, hmay]
    by_cases e : t' = t ∧ k' = k
    ·obtain ⟨rfl, rfl⟩ := e
     rw [if_pos ⟨rfl, rfl, rfl⟩, mtab_set_self hn, mget_set_self hm]
    ·rw [if_neg fun h => e h.2]
     by_cases ht : t = t'
     ·subst ht
      rw [mtab_set_self hn, mget_set_other _ (fun e' => e ⟨rfl, e'.symm⟩)]
     ·rw [mtab_set_other hn ht]
   rw [this]
   rfl
 ·rw [if_neg hc] at hg' ⊢
  rw [if_neg hc]
  rfl
theorem all_flatFrom (M : List MTab) (i : Nat) (t : Int) : (flatFrom i M).filter (fun r => r.1 == t) = if (i : Int) ≤ t then ((M[(t - i).toNat]?.getD (0, [])).2.map fun r => (t, r.1, r.2)) else [] := by
 induction M generalizing i with
 | nil => simp [flatFrom]
 | cons T M ih =>
  unfold flatFrom
  rw [List.filter_append, ih]
  by_cases h1 : (i : Int) = t
  ·subst h1
   rw [List.filter_eq_self.2, if_neg (by omega), if_pos (by omega)]
   ·simp
   ·intro r hr
    rw [List.mem_map] at hr
    obtain ⟨x, _, rfl⟩ := hr
    simp
  ·rw [List.filter_eq_nil_iff.2, List.nil_append]
   ·by_cases h3 : (i : Int) ≤ t
    ·rw [if_pos (by omega), if_pos h3]
     have : (t - (i : Int)).toNat = (t - ((i + 1 : Nat) : Int)).toNat + 1 := by omega
     rw [this, List.getElem?_cons_succ]
    ·rw [if_neg (by omega), if_neg h3]
   ·intro r hr
    rw [List.mem_map] at hr
    obtain ⟨x, _, rfl⟩ := hr
    simpa using h1
theorem rel_all (M : List MTab) (t : Int) : qall (flatM M) t = (mtab M t).2.map fun r => (t, r.1, r.2) := by
 unfold qall flatM mtab
 rw [all_flatFrom]
 by_cases h : 0 ≤ t
 ·rw [if_pos (by omega), if_pos h, show (t - ((0 : Nat) : Int)).toNat = t.toNat by omega]
 ·rw [if_neg (by omega), if_neg h]; rfl
def qadd (c : Int) (n : Int) (r : QR) : Int := if 0 ≤ c ∧ c < (r.2.2.length : Int) then wrap64 (n + r.2.2.getD c.toNat 0) else n
theorem qsumTo_fold (L : List QR) (t c : Int) (i : Nat) (hi : i ≤ L.length) : qsumTo L t c i = (qall (L.take i) t).foldl (qadd c) 0 := by
 induction i with
 | zero => rfl
 | succ i ih =>
  have hx := List.getElem?_eq_getElem (show i < L.length by omega)
  generalize L[i] = r at hx
  rw [qsumTo_next hx, qall_next hx, List.foldl_append, ← ih (by omega)]
  by_cases h1 : r.1 = t
  ·have : (r.1 == t) = true := beq_iff_eq.2 h1
   rw [this]
   simp only [if_true, List.foldl_cons, List.foldl_nil]
   unfold qadd
   by_cases h2 : 0 ≤ c ∧ c < (r.2.2.length : Int)
   ·rw [if_pos ⟨h1, h2⟩, if_pos h2]
   ·rw [if_neg fun h => h2 h.2, if_neg h2]
  ·have : (r.1 == t) = false := beq_eq_false_iff_ne.2 h1
   rw [this, if_neg fun h => h1 h.1]
   rfl
theorem rel_sum {M : List MTab} (hg : Good M) (t c : Int) : qsum (flatM M) t c = msum (mtab M t) c := by
 unfold qsum
 rw [qsumTo_fold _ _ _ _ (Nat.le_refl _), List.take_of_length_le (Nat.le_refl _), rel_all, List.foldl_map]
 have hw := (hg.at t).width
 unfold msum
 by_cases hc : 0 ≤ c ∧ c < ((mtab M t).1 : Int)
 ·rw [if_pos hc]
  unfold sumTo
  rw [List.take_of_length_le (Nat.le_refl _)]
  suffices H : ∀ a : Int, (mtab M t).2.foldl (fun x y => qadd c x (t, y.1, y.2)) a = (mtab M t).2.foldl (fun n r => IntKind.i64.wrap (n + r.2.getD c.toNat 0)) a from H 0
  revert hw
  generalize (mtab M t).2 = l
  intro hw a
  induction l generalizing a with
  | nil => rfl
  | cons r l ih =>
   rw [List.foldl_cons, List.foldl_cons]
   have h1 := hw r List.mem_cons_self
   have h2 : qadd c a (t, r.1, r.2) = IntKind.i64.wrap (a + r.2.getD c.toNat 0) := by
    unfold qadd
    rw [if_pos ⟨hc.1, by show c < (r.2.length : Int); omega⟩, IntKind.wrap_i64]
    show wrap64 (a + r.2.getD c.toNat 0) = _
    unfold wrap64
    rfl
   rw [h2]
   exact ih (fun r hr => hw r (List.mem_cons_of_mem _ hr)) _
 ·rw [if_neg hc]
  revert hw
  generalize (mtab M t).2 = l
  intro hw
  induction l with
  | nil => rfl
  | cons r l ih =>
   rw [List.foldl_cons]
   have h1 := hw r List.mem_cons_self
   have h2 : qadd c 0 (t, r.1, r.2) = 0 := by
    unfold qadd
    rw [if_neg fun h => hc ⟨h.1, by have := h.2; simp only at this; omega⟩]
   rw [h2]
   exact ih fun r hr => hw r (List.mem_cons_of_mem _ hr)
theorem len_flatFrom {M : List MTab} {B : Nat} (h : Few B M) (i : Nat) : (flatFrom i M).length ≤ M.length * B := by
 induction M generalizing i with
 | nil => simp [flatFrom]
 | cons T M ih =>
  unfold flatFrom
  rw [List.length_append, List.length_map, List.length_cons, Nat.succ_mul]
  have h1 := h T List.mem_cons_self
  have h2 := ih (fun T hT => h T (List.mem_cons_of_mem _ hT)) (i + 1)
  omega
theorem mem_flatFrom {M : List MTab} {i : Nat} {r : QR} (h : r ∈ flatFrom i M) : ∃ T ∈ M, (r.2.1, r.2.2) ∈ T.2 := by
 induction M generalizing i with
 | nil => cases h
 | cons T M ih =>
  unfold flatFrom at h
  rw [List.mem_append] at h
  rcases h with h | h
  ·rw [List.mem_map] at h
   obtain ⟨x, hx, rfl⟩ := h
   exact ⟨T, List.mem_cons_self, hx⟩
  ·obtain ⟨T', h1, h2⟩ := ih h
   exact ⟨T', List.mem_cons_of_mem _ h1, h2⟩
theorem qok_flat {M : List MTab} {B : Nat} (hg : Good M) (h : Few B M) (hB : B ≤ 1000) : QOk (colsN M) (flatM M) := by
 refine ⟨by simpa [colsN] using hg.few, ?_, ?_⟩
 ·have h1 := len_flatFrom h 0
  have h2 : M.length * B ≤ 64 * 1000 := Nat.mul_le_mul hg.few hB
  show (flatFrom 0 M).length ≤ _
  omega
 ·intro r hr
  obtain ⟨T, hT, hm⟩ := mem_flatFrom hr
  have h1 := (hg.tabs T hT).1
  have h2 := h1.width _ hm
  have h3 := h1.le
  simp only at h2
  omega
theorem colsN_put (M : List MTab) (t k : Int) (xs : List Int) : colsN (mput M t k xs).1 = colsN M := by
 have := cols_put M t k xs
 unfold colsOf at this
 unfold colsN
 have h : ∀ l : List MTab, l.map (fun T => (T.1 : Int)) = (l.map (·.1)).map (fun n : Nat => (n : Int)) := fun l => by simp
 rw [h, h, this]
theorem colsN_set (M : List MTab) (t k c x : Int) : colsN (mset M t k c x).1 = colsN M := by
 have := cols_set M t k c x
 unfold colsOf at this
 unfold colsN
 have h : ∀ l : List MTab, l.map (fun T => (T.1 : Int)) = (l.map (·.1)).map (fun n : Nat => (n : Int)) := fun l => by simp
 rw [h, h, this]
theorem colsN_del (M : List MTab) (t k : Int) : colsN (mdel M t k).1 = colsN M := by
 have := cols_del M t k
 unfold colsOf at this
 unfold colsN
 have h : ∀ l : List MTab, l.map (fun T => (T.1 : Int)) = (l.map (·.1)).map (fun n : Nat => (n : Int)) := fun l => by simp
 rw [h, h, this]
theorem flat_new (cols : List Int) : flatM (newMod cols) = [] := by
 have : ∀ i, flatFrom i (newMod cols) = [] := by
  induction cols with
  | nil => intro i; rfl
  | cons n cols ih => intro i; show [].map _ ++ flatFrom (i + 1) (newMod cols) = []; rw [ih]; rfl
 exact this 0
theorem colsN_new {cols : List Int} (h : colOk cols) : colsN (newMod cols) = cols := by
 unfold colsN newMod
 rw [List.map_map]
 conv => rhs; rw [← List.map_id cols]
 refine List.map_congr_left fun n hn => ?_
 have := h.2 n hn
 show ((n.toNat : Nat) : Int) = n
 omega
end Go.Proofs.YtgpekgnhbccnoaaGreat
namespace Go.Proofs.YtgpekgnhbccnoaaGreat
open Go Go.RowKit

def refT (qb : Nat) (N : List Int) (L : List QR) : Thing where
 At w S := RefAt w qb N L S
 fr h hf hd := h.fr hf hd
 lt h := h.lt
abbrev refM (qb : Nat) (M : List MTab) : Thing := refT qb (colsN M) (flatM M)
theorem ref_in {w : World} {qb : Nat} {N : List Int} {L : List QR} {S : Nat → Prop} (h : RefAt w qb N L S) : S qb := by
 obtain ⟨nv, lv, g, h, _⟩ := h
 exact h.inR
section
variable {w0 W : World} {l : List Thing}
theorem Lies.qlt (h : Lies w0 W l) {qb : Nat} {M : List MTab} (j : Nat) (hj : l[j]? = some (refM qb M)) : qb < W.heap.size := by
 obtain ⟨S, h1, _⟩ := h.get j _ hj
 exact RefAt.lt h1 _ (ref_in h1)
theorem st_qput (h : Lies w0 W l) {qb N : Nat} {M : List MTab} (j : Nat) (hj : l[j]? = some (refM qb M)) (t k : Int) (v : Value) (xs : List Int) (hg : Good M) (hf : Few N M) (hN : N < 1000) (hv : IntsAt W v xs) (hvb : ∀ k, v.ownBlock = some k → k ≠ qb) (hvl : xs.length ≤ 1000000) :
  Calls Tryz.prog 44 #[rptr qb, .int .i64 t, .int .i64 k, v] W fun e W' => e = .returned (.bool (qmay (colsN M) t xs)) ∧ Lies w0 W' (l.set j (refM qb (mput M t k xs).1)) := by
 obtain ⟨S, h1, _, h2⟩ := h.get j _ hj
 refine (rput_any t k v xs W h1 (qok_flat hg hf (by omega)) hv (fun _ => hvb) hvl).mono fun _ W' ⟨he, a, b⟩ => ⟨he, ?_⟩
 rw [rel_put hg t k xs (good_put hg hf (by omega) t k xs).1, ← colsN_put M t k xs] at a
 exact h2 W' _ (refM qb (mput M t k xs).1) a (fun k hk => hk.imp id fun h => h.1) (b.mono fun k _ e => by have e : k = qb := e; rw [e]; exact ref_in h1)
theorem st_qdel (h : Lies w0 W l) {qb N : Nat} {M : List MTab} (j : Nat) (hj : l[j]? = some (refM qb M)) (t k : Int) (hg : Good M) (hf : Few N M) (hN : N < 1000) :
  Calls Tryz.prog 61 #[rptr qb, .int .i64 t, .int .i64 k] W fun e W' => e = .returned (.tuple #[.bool (qhas (flatM M) t k), .bool (qhas (flatM M) t k || decide (0 < qcols (colsN M) t))]) ∧ Lies w0 W' (l.set j (refM qb (mdel M t k).1)) := by
 obtain ⟨S, h1, _, h2⟩ := h.get j _ hj
 refine (rdel_any t k W h1 (qok_flat hg hf (by omega))).mono fun _ W' ⟨he, a, b⟩ => ⟨he, ?_⟩
 rw [rel_del hg t k (good_del hg hf t k).1, ← colsN_del M t k] at a
 exact h2 W' _ (refM qb (mdel M t k).1) a (fun k hk => hk.imp id fun h => h.1) (b.mono fun k _ e => by have e : k = qb := e; rw [e]; exact ref_in h1)
end
end Go.Proofs.YtgpekgnhbccnoaaGreat
namespace Go.Proofs.YtgpekgnhbccnoaaGreat
open Go Go.RowKit

theorem tells_len {M : List MTab} {t : Int} {g : List GRow} {g2 : List QRow} (h1 : rowsOf g = (mtab M t).2) (h2 : qrows g2 = (mtab M t).2.map fun r => (t, r.1, r.2)) : g2.length = g.length ∧ (mtab M t).2.length = g.length := by
 have e1 := congrArg List.length h1
 have e2 := congrArg List.length h2
 simp [rowsOf, qrows] at e1 e2
 exact ⟨by omega, by omega⟩
theorem find_key {l : List (Int × List Int)} {k : Int} {xs : List Int} (hp : l.Pairwise fun a b => a.1 < b.1) (hm : (k, xs) ∈ l) : l.find? (fun r => r.1 == k) = some (k, xs) := by
 induction l with
 | nil => cases hm
 | cons a l ih =>
  rw [List.pairwise_cons] at hp
  rcases List.mem_cons.1 hm with rfl | h
  ·rw [List.find?_cons_of_pos (by simp)]
  ·have := hp.1 _ h
   rw [List.find?_cons_of_neg (by simp only at this; simp; omega)]
   exact ih hp.2 h
theorem mget_of_mem {T : MTab} (h : GoodT T) {k : Int} {xs : List Int} (hm : (k, xs) ∈ T.2) : mget T k = some xs := by
 unfold mget
 rw [find_key h.sorted hm]
 rfl
theorem tells_row {M : List MTab} {t : Int} {g : List GRow} {g2 : List QRow} {i : Nat} {r : GRow} {q : QRow} (hg : Good M) (h1 : rowsOf g = (mtab M t).2) (h2 : qrows g2 = (mtab M t).2.map fun r => (t, r.1, r.2)) (hr : g[i]? = some r) (hq : g2[i]? = some q) :
  q.key = r.key ∧ q.cols = r.cols ∧ mget (mtab M t) r.key = some r.cols ∧ r.cols.length ≤ 1000000 := by
 rw [← h1] at h2
 have e : (qrows g2)[i]? = some (t, r.key, r.cols) := by rw [h2]; simp [rowsOf, hr]
 have e2 : (qrows g2)[i]? = some q.mod := by simp [qrows, hq]
 rw [e2] at e
 have e := Option.some.inj e
 have k1 : q.key = r.key := congrArg (fun x : QR => x.2.1) e
 have k2 : q.cols = r.cols := congrArg (fun x : QR => x.2.2) e
 have hm : (r.key, r.cols) ∈ (mtab M t).2 := by rw [← h1]; exact List.mem_map.2 ⟨r, List.mem_of_getElem? hr, rfl⟩
 have hgt := hg.at t
 refine ⟨k1, k2, ?_, ?_⟩
 ·exact mget_of_mem hgt hm
 ·have h3 : r.cols.length = (mtab M t).1 := hgt.width _ hm
  have := hgt.le
  omega
end Go.Proofs.YtgpekgnhbccnoaaGreat
