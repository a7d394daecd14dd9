/-
  Rows of elements of several cells each.
  No condition.
-/
import Derived.Test.YtkeiphmhckkniaaSl
namespace Go.Proofs.Ytkeiphmhckkniaa
open Go Go.RowKit
section
variable {α : Type} {f : α → List Value} {n : Nat}
theorem flat_len (hf : ∀ x, (f x).length = n) (l : List α) : (l.flatMap f).length = l.length * n := by
  induction l with
  | nil => simp
  | cons x l ih => rw [List.flatMap_cons, List.length_append, ih, hf, List.length_cons, Nat.succ_mul, Nat.add_comm]
theorem flat_get (hf : ∀ x, (f x).length = n) {l : List α} {i : Nat} {t : α} (h : l[i]? = some t) (j : Nat) (hj : j < n) : (l.flatMap f)[i * n + j]? = (f t)[j]? := by
  induction l generalizing i with
  | nil => simp at h
  | cons x l ih =>
    cases i with
    | zero =>
      simp at h; subst h
      rw [List.flatMap_cons, Nat.zero_mul, Nat.zero_add, List.getElem?_append_left (by rw [hf]; exact hj)]
    | succ i =>
      simp at h
      rw [List.flatMap_cons, List.getElem?_append_right (by rw [hf, Nat.succ_mul]; omega), ← ih h, hf]
      congr 1
      rw [Nat.succ_mul]; omega
theorem sl_of {w : World} (hf : ∀ x, (f x).length = n) (hn : 0 < n) {l : List α} {b off cap : Nat} (h : ∀ i t, l[i]? = some t → ∀ j u, (f t)[j]? = some u → w.cell? ⟨b, off + i * n + j, none⟩ = some u) :
    SlAt w n (.slice (some ⟨b, off, none⟩) l.length cap) l.length (l.flatMap f) := by
  refine ⟨flat_len hf l, .inr ⟨⟨b, off, none⟩, cap, rfl, fun j u hu => ?_⟩⟩
  have hj := (List.getElem?_eq_some_iff.1 hu).1
  rw [flat_len hf] at hj
  have hi : j / n < l.length := (Nat.div_lt_iff_lt_mul hn).2 hj
  have ht := List.getElem?_eq_getElem hi
  have hr := Nat.mod_lt j hn
  have hd := Nat.div_add_mod j n
  rw [Nat.mul_comm] at hd
  have h5 := h _ _ ht (j % n) u (by rw [← flat_get hf ht _ hr, hd]; exact hu)
  rw [Nat.add_assoc, hd] at h5
  rw [Addr.add_lit]
  exact h5
theorem flat_form {w : World} {v : Value} {l : List α} (hf : ∀ x, (f x).length = n) (hn : 0 < n) (h : SlAt w n v l.length (l.flatMap f)) (h0 : 0 < l.length) : ∃ b off cap, v = .slice (some ⟨b, off, none⟩) l.length cap ∧
    ∀ i t, l[i]? = some t → ∀ j u, (f t)[j]? = some u → w.cell? ⟨b, off + i * n + j, none⟩ = some u := by
  obtain ⟨b, off, cap, rfl, hc⟩ := SlAt.form h hn h0
  refine ⟨b, off, cap, rfl, fun i t ht j u hu => ?_⟩
  have hj := (List.getElem?_eq_some_iff.1 hu).1
  rw [hf] at hj
  rw [Nat.add_assoc]
  exact hc _ u (by rw [flat_get hf ht j hj, hu])
end
end Go.Proofs.Ytkeiphmhckkniaa
