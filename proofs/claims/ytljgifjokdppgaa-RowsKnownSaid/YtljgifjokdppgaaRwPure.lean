/-
  Plain laws of the tables as the document has them: what is well formed stays so.
  No condition.
-/
import Derived.Test.YtljgifjokdppgaaRwNew
namespace Go.Proofs.Ytljgifjokdppgaa
open Go Go.RowKit

def Few (N : Nat) (M : List MTab) : Prop := ∀ T ∈ M, T.2.length ≤ N

theorem put_len (T : MTab) (k : Int) (cols : List Int) : (T.put k cols).2.length ≤ T.2.length + 1 := by
  show (T.2.filter (fun r => decide (r.1 < k)) ++ (k, cols) :: T.2.filter (fun r => decide (k < r.1))).length ≤ _
  rw [List.length_append, List.length_cons]
  have : ∀ l : List (Int × List Int), (l.filter (fun r => decide (r.1 < k))).length + (l.filter (fun r => decide (k < r.1))).length ≤ l.length := by
    intro l
    induction l with
    | nil => simp
    | cons x l ih =>
      by_cases h1 : x.1 < k
      · have h2 : ¬ k < x.1 := by omega
        simp only [List.filter_cons, h1, h2, decide_true, decide_false, if_true, List.length_cons]
        simp only [Bool.false_eq_true, if_false]
        omega
      · by_cases h2 : k < x.1
        · simp only [List.filter_cons, h1, h2, decide_true, decide_false, if_true, List.length_cons]
          simp only [Bool.false_eq_true, if_false]
          omega
        · simp only [List.filter_cons, h1, h2, decide_false, List.length_cons]
          simp only [Bool.false_eq_true, if_false]
          omega
  have := this T.2
  omega
theorem GoodT.put {T : MTab} (h : GoodT T) (k : Int) (cols : List Int) (hc : cols.length = T.1) (hN : T.2.length < 1000000) : GoodT (T.put k cols) := by
  refine ⟨?_, ?_, h.le, ?_⟩
  · show List.Pairwise _ (T.2.filter (fun r => decide (r.1 < k)) ++ (k, cols) :: T.2.filter (fun r => decide (k < r.1)))
    rw [List.pairwise_append, List.pairwise_cons]
    refine ⟨h.sorted.filter _, ⟨fun r hr => by simpa using (List.mem_filter.1 hr).2, h.sorted.filter _⟩, fun a ha b hb => ?_⟩
    have ha' : a.1 < k := by simpa using (List.mem_filter.1 ha).2
    rw [List.mem_cons] at hb
    rcases hb with rfl | hb
    · exact ha'
    · have : k < b.1 := by simpa using (List.mem_filter.1 hb).2
      omega
  · intro r hr
    have hr' : r ∈ T.2.filter (fun r => decide (r.1 < k)) ++ (k, cols) :: T.2.filter (fun r => decide (k < r.1)) := hr
    simp only [List.mem_append, List.mem_cons, List.mem_filter] at hr'
    rcases hr' with hr | rfl | hr
    · exact h.width r hr.1
    · exact hc
    · exact h.width r hr.1
  · have := put_len T k cols; omega
theorem GoodT.set {T : MTab} (h : GoodT T) (k : Int) (c : Nat) (x : Int) : GoodT (T.set k c x) := by
  have hk : ∀ r : Int × List Int, (if r.1 = k then (r.1, r.2.set c x) else r).1 = r.1 := fun r => by split <;> rfl
  refine ⟨?_, ?_, h.le, ?_⟩
  · show List.Pairwise _ (T.2.map _)
    rw [List.pairwise_map]
    refine h.sorted.imp fun {a b} hab => ?_
    rw [hk, hk]; exact hab
  · intro r hr
    have hr' : r ∈ T.2.map (fun r => if r.1 = k then (r.1, r.2.set c x) else r) := hr
    rw [List.mem_map] at hr'
    obtain ⟨y, hy, rfl⟩ := hr'
    have := h.width y hy
    show (if y.1 = k then (y.1, y.2.set c x) else y).2.length = T.1
    split
    · simp [this]
    · exact this
  · show (T.2.map _).length ≤ _
    rw [List.length_map]; exact h.few
theorem GoodT.del {T : MTab} (h : GoodT T) (k : Int) : GoodT (T.del k) := by
  refine ⟨h.sorted.filter _, fun r hr => h.width r (List.mem_filter.1 hr).1, h.le, ?_⟩
  have := List.length_filter_le (fun r : Int × List Int => decide (r.1 ≠ k)) T.2
  have h2 := h.few
  show (T.2.filter (fun r => decide (r.1 ≠ k))).length ≤ _
  omega
theorem mem_set_cases {α : Type} {l : List α} {i : Nat} {x y : α} (h : y ∈ l.set i x) : y ∈ l ∨ y = x := by
  rcases List.mem_or_eq_of_mem_set h with h | h
  · exact .inl h
  · exact .inr h
theorem mtab_mem {M : List MTab} {i : Int} (h : (mtab M i).1 ≠ 0) : mtab M i ∈ M := by
  unfold mtab at *
  split at h
  · rename_i h0
    rw [if_pos h0]
    cases hi : M[i.toNat]? with
    | none => rw [hi] at h; exact absurd rfl h
    | some T => exact List.mem_of_getElem? hi
  · exact absurd rfl h
theorem Good.upd {M : List MTab} (h : Good M) {i : Nat} {T : MTab} (hT : GoodT T) (h1 : 1 ≤ T.1) : Good (M.set i T) :=
  ⟨fun x hx => by
    rcases mem_set_cases hx with hx | rfl
    · exact h.tabs x hx
    · exact ⟨hT, h1⟩, by rw [List.length_set]; exact h.few⟩
theorem good_put {M : List MTab} {N : Nat} (h : Good M) (hf : Few N M) (hN : N < 1000000) (i k : Int) (cols : List Int) : Good (mput M i k cols).1 ∧ Few (N + 1) (mput M i k cols).1 := by
  unfold mput
  split
  · exact ⟨h, fun T hT => Nat.le_succ_of_le (hf T hT)⟩
  · rename_i hc
    rw [not_or] at hc
    have hm := mtab_mem hc.1
    have hl := hf _ hm
    refine ⟨h.upd ((h.tabs _ hm).1.put k cols (Decidable.not_not.1 hc.2) (by omega)) (h.tabs _ hm).2, fun T hT => ?_⟩
    rcases mem_set_cases hT with hT | rfl
    · exact Nat.le_succ_of_le (hf T hT)
    · have := put_len (mtab M i) k cols; omega
theorem good_set {M : List MTab} {N : Nat} (h : Good M) (hf : Few N M) (i k c x : Int) : Good (mset M i k c x).1 ∧ Few N (mset M i k c x).1 := by
  unfold mset
  split
  · rename_i hc
    split
    · have hm : mtab M i ∈ M := mtab_mem (by omega)
      refine ⟨h.upd ((h.tabs _ hm).1.set k _ x) (h.tabs _ hm).2, fun T hT => ?_⟩
      rcases mem_set_cases hT with hT | rfl
      · exact hf T hT
      · have := hf _ hm
        simpa [MTab.set] using this
    · exact ⟨h, hf⟩
  · exact ⟨h, hf⟩
theorem good_del {M : List MTab} {N : Nat} (h : Good M) (hf : Few N M) (i k : Int) : Good (mdel M i k).1 ∧ Few N (mdel M i k).1 := by
  unfold mdel
  split
  · exact ⟨h, hf⟩
  · rename_i hc
    split
    · have hm : mtab M i ∈ M := mtab_mem hc
      refine ⟨h.upd ((h.tabs _ hm).1.del k) (h.tabs _ hm).2, fun T hT => ?_⟩
      rcases mem_set_cases hT with hT | rfl
      · exact hf T hT
      · have h1 := hf _ hm
        have h2 := List.length_filter_le (fun r : Int × List Int => decide (r.1 ≠ k)) (mtab M i).2
        show ((mtab M i).2.filter (fun r => decide (r.1 ≠ k))).length ≤ N
        omega
    · exact ⟨h, hf⟩
theorem good_new {cols : List Int} (h : colsOk cols) : Good (newMod cols) ∧ Few 0 (newMod cols) := by
  refine ⟨⟨fun T hT => ?_, by simpa [newMod] using h.1⟩, fun T hT => ?_⟩
  · simp only [newMod, List.mem_map] at hT
    obtain ⟨n, hn, rfl⟩ := hT
    have := h.2 n hn
    refine ⟨⟨List.Pairwise.nil, fun r hr => (by cases hr), ?_, by simp⟩, ?_⟩ <;> show _ ≤ _ <;> simp only <;> omega
  · simp only [newMod, List.mem_map] at hT
    obtain ⟨n, hn, rfl⟩ := hT
    exact Nat.le_refl _
end Go.Proofs.Ytljgifjokdppgaa
