/-
  What AdmitFits asks of who is in, in plain lists.
  No condition.
-/
import Derived.Test.YtplebgcgoigigaaAdMore
namespace Go.Proofs.Ytplebgcgoigigaa
open Go Go.RowKit Go.Maps Go.Shelf

/-- What the first of the keys need together. -/
def sumK (p : Nd → Int) (M : List (Int × Nd)) : List Int → Int
  | [] => 0
  | x :: l => p (getV M x zeroN) + sumK p M l
theorem sumK_app (p : Nd → Int) (M : List (Int × Nd)) (A B : List Int) : sumK p M (A ++ B) = sumK p M A + sumK p M B := by
  induction A with
  | nil => simp [sumK]
  | cons a A ih => simp only [List.cons_append, sumK, ih]; omega
theorem sumK_perm (p : Nd → Int) (M : List (Int × Nd)) {A B : List Int} (h : A.Perm B) : sumK p M A = sumK p M B := by
  induction h with
  | nil => rfl
  | cons x _ ih => simp only [sumK, ih]
  | swap x y l => simp only [sumK]; omega
  | trans _ _ h1 h2 => rw [h1, h2]
theorem sumK_keys {p : Nd → Int} {M : List (Int × Nd)} (hn : (M.map Prod.fst).Nodup) : ∀ {L : List (Int × Nd)}, (∀ q ∈ L, q ∈ M) → sumK p M (L.map Prod.fst) = sumP p L := by
  intro L
  induction L with
  | nil => intro _; rfl
  | cons q L ih =>
    intro h
    obtain ⟨x, n⟩ := q
    simp only [List.map_cons, sumK, sumP]
    rw [getV_mem hn (h (x, n) (by simp)), ih fun q hq => h q (by simp [hq])]
section
variable {c : CapD} {M : List (Int × Nd)}
theorem Inv.nd (h : Inv c M) {x : Int} (hx : hasK M x = true) : (x, getV M x zeroN) ∈ M ∧ (getV M x zeroN).may = true := by
  obtain ⟨n, hn⟩ := hasK_iff.1 hx
  rw [getV_mem h.keys hn]
  exact ⟨hn, (h.each _ hn).1⟩
theorem keysOf_has {x : Int} {i : Nat} (h : (keysOf M)[i]? = some x) : hasK M x = true := keys_of_has ((keysOf_perm M).mem_iff.1 (List.mem_of_getElem? h))
theorem sumK_take (h : Inv c M) (p : Nd → Int) (hp : ∀ n : Nd, n.may = true → 0 ≤ p n) (k : Nat) : 0 ≤ sumK p M ((keysOf M).take k) ∧ sumK p M ((keysOf M).take k) ≤ sumP p M := by
  have hnn : ∀ L : List Int, (∀ x ∈ L, hasK M x = true) → 0 ≤ sumK p M L := by
    intro L
    induction L with
    | nil => intro _; simp [sumK]
    | cons x L ih =>
      intro hL
      have h1 := hp _ (h.nd (hL x (by simp))).2
      have h2 := ih fun y hy => hL y (by simp [hy])
      simp only [sumK]; omega
  have hk : ∀ x ∈ keysOf M, hasK M x = true := fun x hx => keys_of_has ((keysOf_perm M).mem_iff.1 hx)
  have h1 : sumK p M (keysOf M) = sumP p M := by rw [sumK_perm p M (keysOf_perm M), sumK_keys h.keys fun q hq => hq]
  have h2 := sumK_app p M ((keysOf M).take k) ((keysOf M).drop k)
  rw [List.take_append_drop, h1] at h2
  have h3 := hnn ((keysOf M).take k) fun x hx => hk x (List.mem_of_mem_take hx)
  have h4 := hnn ((keysOf M).drop k) fun x hx => hk x (List.mem_of_mem_drop hx)
  omega
theorem sumK_succ (p : Nd → Int) {x : Int} {k : Nat} (hx : (keysOf M)[k]? = some x) : sumK p M ((keysOf M).take (k + 1)) = sumK p M ((keysOf M).take k) + p (getV M x zeroN) := by
  obtain ⟨hk, rfl⟩ := List.getElem?_eq_some_iff.1 hx
  rw [List.take_succ_eq_append_getElem hk, sumK_app]
  simp [sumK]
/-- Two of them, apart. -/
theorem Inv.two (h : Inv c M) {x y : Int} (hx : hasK M x = true) (hy : hasK M y = true) (hne : x ≠ y) : ¬ ((getV M x zeroN).proc = (getV M y zeroN).proc ∧ ((getV M x zeroN).single = true ∨ (getV M y zeroN).single = true)) := by
  have h1 := (h.nd hx).1
  have h2 := (h.nd hy).1
  obtain ⟨i, hi, ei⟩ := List.mem_iff_getElem.1 h1
  obtain ⟨j, hj, ej⟩ := List.mem_iff_getElem.1 h2
  have hp := List.pairwise_iff_getElem.1 h.apart
  have hij : i ≠ j := by
    intro e; subst e
    rw [ei] at ej
    injection ej with ej _
    exact hne ej
  rcases Nat.lt_or_gt_of_ne hij with hlt | hlt
  · have := hp i j hi hj hlt
    rw [ei, ej] at this
    exact this
  · have := (hp j i hj hi hlt).symm
    rw [ei, ej] at this
    exact this
theorem enter_codes (c : CapD) (M : List (Int × Nd)) (x : Int) (n : Nd) : (enterC c M x n = 0 ∧ mayP c M n = true) ∨ (enterC c M x n = 170 ∧ mayP c M n = false ∧ enterM c M x n = M) ∨ (enterC c M x n = 2 ∧ enterM c M x n = M) := by
  unfold enterC enterM
  cases h1 : (hasK M x || !n.may) with
  | true => right; right; simp
  | false =>
    cases h2 : mayP c M n with
    | true => left; simp
    | false => right; left; simp
theorem room_nil (h : c.may = true) : roomOf c [] = c := by
  rw [(Inv.nil h).room]
  simp [sumP]
/-- Whoever is in is still to leave. -/
def Left (M : List (Int × Nd)) (ks : List Int) (i : Nat) : Prop := ∀ x, hasK M x = true → ∃ j, i ≤ j ∧ ks[j]? = some x
theorem Left.start (M : List (Int × Nd)) : Left M (keysOf M) 0 := fun x h => by
  have hm := (keysOf_perm M).mem_iff.2 (List.contains_iff_mem.1 h)
  obtain ⟨j, hj⟩ := List.getElem?_of_mem hm
  exact ⟨j, Nat.zero_le _, hj⟩
theorem Left.leave {ks : List Int} {i : Nat} {x : Int} (h : Left M ks i) (hx : ks[i]? = some x) : Left (leaveM M x) ks (i + 1) := by
  intro y hy
  obtain ⟨n, hn⟩ := hasK_iff.1 hy
  obtain ⟨h1, h2⟩ := List.mem_filter.1 hn
  obtain ⟨j, hj, hjy⟩ := h y (hasK_iff.2 ⟨n, h1⟩)
  refine ⟨j, ?_, hjy⟩
  rcases Nat.lt_or_eq_of_le hj with h3 | h3
  · exact h3
  · subst h3
    rw [hx] at hjy
    cases hjy
    simp at h2
theorem Left.done {ks : List Int} (h : Left M ks ks.length) : M = [] := by
  cases M with
  | nil => rfl
  | cons p M =>
    obtain ⟨j, hj, hjx⟩ := h p.1 (hasK_iff.2 ⟨p.2, by simp⟩)
    have := (List.getElem?_eq_some_iff.1 hjx).1
    omega
end
end Go.Proofs.Ytplebgcgoigigaa
