/-
  Plain laws: the document's rows and the tables are the same.
  No condition.
-/
import Derived.Test.YtljgifjokdppgaaRfAll
import Derived.Test.YtljgifjokdppgaaRwKeepPure
namespace Go.Proofs.Ytljgifjokdppgaa
open Go Go.RowKit

def qlt (a b : QR) : Prop := a.1 < b.1 ∨ (a.1 = b.1 ∧ a.2.1 < b.2.1)
theorem qlt_trans {a b c : QR} (h1 : qlt a b) (h2 : qlt b c) : qlt a c := by unfold qlt at *; omega
theorem qlt_irrefl (a : QR) : ¬ qlt a a := by unfold qlt; omega
def QSort (L : List QR) : Prop := L.Pairwise qlt
def flatFrom : Nat → List MTab → List QR
  | _, [] => []
  | i, T :: M => T.2.map (fun r => ((i : Int), r.1, r.2)) ++ flatFrom (i + 1) M
def flatM (M : List MTab) : List QR := flatFrom 0 M

theorem flatFrom_ge {M : List MTab} {i : Nat} {r : QR} (h : r ∈ flatFrom i M) : (i : Int) ≤ r.1 := by
  induction M generalizing i with
  | nil => cases h
  | cons T M ih =>
    unfold flatFrom at h
    rw [List.mem_append] at h
    rcases h with h | h
    · rw [List.mem_map] at h
      obtain ⟨x, _, rfl⟩ := h
      exact Int.le_refl _
    · have := ih h; omega
theorem sort_flatFrom {M : List MTab} (h : ∀ T ∈ M, T.2.Pairwise fun a b => a.1 < b.1) (i : Nat) : QSort (flatFrom i M) := by
  induction M generalizing i with
  | nil => exact List.Pairwise.nil
  | cons T M ih =>
    unfold flatFrom QSort
    rw [List.pairwise_append]
    refine ⟨?_, ih (fun T hT => h T (List.mem_cons_of_mem _ hT)) _, ?_⟩
    · rw [List.pairwise_map]
      exact (h T (List.mem_cons_self)).imp fun {a b} hab => .inr ⟨rfl, hab⟩
    · intro a ha b hb
      rw [List.mem_map] at ha
      obtain ⟨x, _, rfl⟩ := ha
      have := flatFrom_ge hb
      exact .inl (by show (i : Int) < b.1; omega)
theorem Good.sort {M : List MTab} (h : Good M) : QSort (flatM M) := sort_flatFrom (fun T hT => (h.tabs T hT).1.sorted) 0
theorem get_flatFrom (M : List MTab) (i : Nat) (t k : Int) : (flatFrom i M).find? (qis t k) = ((if (i : Int) ≤ t then M[(t - i).toNat]? else none).bind fun T => T.2.find? fun r => r.1 == k).map fun r => (t, r.1, r.2) := by
  induction M generalizing i with
  | nil => simp [flatFrom]
  | cons T M ih =>
    unfold flatFrom
    rw [List.find?_append, ih]
    by_cases h1 : (i : Int) = t
    · subst h1
      have h2 : (T.2.map (fun r => ((i : Int), r.1, r.2))).find? (qis (i : Int) k) = (T.2.find? fun r => r.1 == k).map fun r => ((i : Int), r.1, r.2) := by
        rw [List.find?_map]
        congr 2
        funext r
        simp [qis, Function.comp]
      have h3 : (if ((i + 1 : Nat) : Int) ≤ (i : Int) then M[((i : Int) - ((i + 1 : Nat) : Int)).toNat]? else none) = none := by rw [if_neg (by omega)]
      rw [h2, h3]
      simp
    · have h2 : (T.2.map (fun r => ((i : Int), r.1, r.2))).find? (qis t k) = none := by
        rw [List.find?_eq_none]
        intro r hr
        rw [List.mem_map] at hr
        obtain ⟨x, _, rfl⟩ := hr
        simp [qis, h1]
      rw [h2, Option.none_or]
      by_cases h3 : (i : Int) ≤ t
      · rw [if_pos (by omega), if_pos h3]
        have : (t - (i : Int)).toNat = (t - ((i + 1 : Nat) : Int)).toNat + 1 := by omega
        rw [this, List.getElem?_cons_succ]
      · rw [if_neg (by omega), if_neg h3]
theorem rel_get (M : List MTab) (t k : Int) : qget (flatM M) t k = mget (mtab M t) k := by
  unfold qget flatM mget mtab
  rw [get_flatFrom]
  by_cases h : 0 ≤ t
  · rw [if_pos (by omega), if_pos h, show (t - ((0 : Nat) : Int)).toNat = t.toNat by omega]
    cases M[t.toNat]? with
    | none => rfl
    | some T =>
      simp only [Option.bind_some, Option.getD_some]
      cases T.2.find? fun r => r.1 == k <;> rfl
  · rw [if_neg (by omega), if_neg h]
    rfl

/-- Sorted rows of which the same is got are the same. -/
theorem qget_mem {L : List QR} (h : QSort L) {r : QR} : r ∈ L ↔ qget L r.1 r.2.1 = some r.2.2 := by
  constructor
  · intro hr
    have : L.find? (qis r.1 r.2.1) = some r := by
      induction L with
      | nil => cases hr
      | cons x L ih =>
        unfold QSort at h
        rw [List.pairwise_cons] at h
        rcases List.mem_cons.1 hr with rfl | hr
        · rw [List.find?_cons_of_pos (by simp [qis])]
        · rw [List.find?_cons_of_neg, ih h.2 hr]
          have := h.1 r hr
          simp only [qis, Bool.and_eq_true, beq_iff_eq, not_and]
          intro e1 e2
          rcases this with h1 | ⟨_, h1⟩ <;> omega
    unfold qget
    rw [this]
    rfl
  · intro hr
    unfold qget at hr
    rw [Option.map_eq_some_iff] at hr
    obtain ⟨x, hx, e⟩ := hr
    have h1 := List.find?_some hx
    have h2 := List.mem_of_find?_eq_some hx
    simp only [qis, Bool.and_eq_true, beq_iff_eq] at h1
    have : x = r := Prod.ext h1.1 (Prod.ext h1.2 e)
    rw [← this]; exact h2
theorem sorted_ext : ∀ {L L' : List QR}, QSort L → QSort L' → (∀ r, r ∈ L ↔ r ∈ L') → L = L'
  | [], [], _, _, _ => rfl
  | [], x :: L', _, _, h => absurd ((h x).2 List.mem_cons_self) (by simp)
  | x :: L, [], _, _, h => absurd ((h x).1 List.mem_cons_self) (by simp)
  | x :: L, y :: L', h1, h2, h => by
    unfold QSort at h1 h2
    rw [List.pairwise_cons] at h1 h2
    have hxy : x = y := by
      rcases List.mem_cons.1 ((h x).1 List.mem_cons_self) with e | hx
      · exact e
      · rcases List.mem_cons.1 ((h y).2 List.mem_cons_self) with e | hy
        · exact e.symm
        · exact absurd (qlt_trans (h1.1 y hy) (h2.1 x hx)) (qlt_irrefl _)
    subst hxy
    congr 1
    refine sorted_ext h1.2 h2.2 fun r => ⟨fun hr => ?_, fun hr => ?_⟩
    · rcases List.mem_cons.1 ((h r).1 (List.mem_cons_of_mem _ hr)) with e | hr'
      · subst e; exact absurd (h1.1 _ hr) (qlt_irrefl _)
      · exact hr'
    · rcases List.mem_cons.1 ((h r).2 (List.mem_cons_of_mem _ hr)) with e | hr'
      · subst e; exact absurd (h2.1 _ hr) (qlt_irrefl _)
      · exact hr'
theorem sorted_ext_get {L L' : List QR} (h1 : QSort L) (h2 : QSort L') (h : ∀ t k, qget L t k = qget L' t k) : L = L' :=
  sorted_ext h1 h2 fun r => by rw [qget_mem h1, qget_mem h2, h]

theorem qdel_filter {L : List QR} (h : QSort L) (t k : Int) : qdel L t k = L.filter fun r => !qis t k r := by
  unfold qdel
  rcases qat_spec L t k with ⟨h1, h2⟩ | ⟨j, r, h1, h2, h3, h4⟩
  · rw [if_pos h1, List.filter_eq_self.2]
    intro r hr
    rw [h2 r hr]; rfl
  · rw [if_neg (by omega), h1]
    obtain ⟨hs, hl⟩ := split_at h2
    have hjj : ((j : Int)).toNat = j := by omega
    rw [hjj, List.eraseIdx_eq_take_drop_succ]
    conv => rhs; rw [hs]
    rw [List.filter_append, List.filter_cons]
    have e1 : (!qis t k r) = false := by rw [h3]; rfl
    rw [e1]
    simp only [Bool.false_eq_true, if_false]
    congr 1
    · rw [List.filter_eq_self.2]
      intro x hx
      obtain ⟨i, hi⟩ := List.getElem?_of_mem hx
      have hij : i < j := by have := (List.getElem?_eq_some_iff.1 hi).1; simp at this; omega
      rw [List.getElem?_take, if_pos hij] at hi
      rw [h4 i x hij hi]; rfl
    · rw [List.filter_eq_self.2]
      intro x hx
      have hp : qlt r x := by
        unfold QSort at h
        rw [hs, List.pairwise_append, List.pairwise_cons] at h
        exact h.2.1.1 x hx
      have : qis t k x = false := by
        simp only [qis, Bool.and_eq_true, beq_iff_eq] at h3
        rw [Bool.eq_false_iff]
        intro e
        simp only [qis, Bool.and_eq_true, beq_iff_eq] at e
        rcases hp with h5 | ⟨_, h5⟩ <;> omega
      rw [this]; rfl
theorem qdel_sort {L : List QR} (h : QSort L) (t k : Int) : QSort (qdel L t k) := by
  rw [qdel_filter h]
  exact List.Pairwise.filter _ h
theorem qdel_get {L : List QR} (h : QSort L) (t k t' k' : Int) : qget (qdel L t k) t' k' = if t' = t ∧ k' = k then none else qget L t' k' := by
  rw [qdel_filter h]
  unfold qget
  rw [List.find?_filter]
  by_cases e : t' = t ∧ k' = k
  · obtain ⟨rfl, rfl⟩ := e
    rw [if_pos ⟨rfl, rfl⟩, List.find?_eq_none.2]
    · rfl
    · intro r _
      cases qis t' k' r <;> simp
  · rw [if_neg e]
    congr 2
    funext r
    by_cases h1 : qis t' k' r = true
    · have h2 : qis t k r = false := by
        simp only [qis, Bool.and_eq_true, beq_iff_eq] at h1
        rw [Bool.eq_false_iff]
        intro h2
        simp only [qis, Bool.and_eq_true, beq_iff_eq] at h2
        exact e ⟨by omega, by omega⟩
      rw [h1, h2]; rfl
    · have h2 : qis t' k' r = false := by simpa using h1
      rw [h2]; simp
end Go.Proofs.Ytljgifjokdppgaa
