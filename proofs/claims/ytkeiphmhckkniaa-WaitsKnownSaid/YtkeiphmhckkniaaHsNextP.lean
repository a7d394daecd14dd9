/-
  What is marked as blocked, step by step. No program in sight.
  No condition.
-/
import Derived.Test.YtkeiphmhckkniaaHsPure
namespace Go.Proofs.Ytkeiphmhckkniaa

/-- Which nodes are there. -/
def thOf (n : Nat) (out : List Nat) : List Bool := (List.range n).map fun i => out.contains i
theorem thOf_len (n : Nat) (out : List Nat) : (thOf n out).length = n := by simp [thOf]
theorem thOf_getD {n : Nat} {out : List Nat} {i : Nat} (hi : i < n) : (thOf n out).getD i false = out.contains i := by
  simp [thOf, List.getD_eq_getElem?_getD, hi]
theorem thOf_nil (n : Nat) : thOf n [] = List.replicate n false := by
  apply List.ext_getElem (by simp [thOf])
  intro i h1 h2
  simp [thOf]
theorem thOf_set {n : Nat} {out : List Nat} {x : Nat} : (thOf n out).set x true = thOf n (out ++ [x]) := by
  apply List.ext_getElem (by simp [thOf])
  intro i h1 h2
  simp only [List.getElem_set, thOf, List.getElem_map, List.getElem_range, List.contains_eq_mem, List.mem_append, List.mem_singleton]
  by_cases h : x = i
  · subst h; simp
  · have : ¬ i = x := fun e => h e.symm
    simp [h, this]
def mark (bl : List Bool) (x : Int) : List Bool := if 0 ≤ x ∧ x < bl.length then bl.set x.toNat true else bl
def marks (t : Bool) (bl : List Bool) (l : List Int) : List Bool := if t then bl else l.foldl mark bl
def blockTo (G : List (List Int)) (th : List Bool) (k : Nat) : List Bool := (List.range k).foldl (fun bl i => marks (th.getD i false) bl (G.getD i [])) th
theorem mark_len (bl : List Bool) (x : Int) : (mark bl x).length = bl.length := by unfold mark; split <;> simp
theorem foldl_mark_len (l : List Int) : ∀ bl : List Bool, (l.foldl mark bl).length = bl.length := by
  induction l with
  | nil => intro bl; rfl
  | cons x l ih => intro bl; rw [List.foldl_cons, ih, mark_len]
theorem marks_len (t : Bool) (bl : List Bool) (l : List Int) : (marks t bl l).length = bl.length := by
  unfold marks; split
  · rfl
  · exact foldl_mark_len l bl
theorem blockTo_succ (G : List (List Int)) (th : List Bool) (k : Nat) : blockTo G th (k + 1) = marks (th.getD k false) (blockTo G th k) (G.getD k []) := by
  simp [blockTo, List.range_succ]
theorem blockTo_len (G : List (List Int)) (th : List Bool) (k : Nat) : (blockTo G th k).length = th.length := by
  induction k with
  | zero => rfl
  | succ k ih => rw [blockTo_succ, marks_len, ih]
theorem marks_snoc_skip {bl : List Bool} {l : List Int} {x : Int} : marks true bl (l ++ [x]) = marks true bl l := rfl
theorem marks_snoc {bl : List Bool} {l : List Int} {x : Int} : marks false bl (l ++ [x]) = mark (marks false bl l) x := by simp [marks]
theorem mark_in {bl : List Bool} {j : Nat} (h : j < bl.length) : mark bl (j : Int) = bl.set j true := by
  unfold mark; rw [if_pos ⟨by omega, by omega⟩]; rfl
theorem mark_out {bl : List Bool} {x : Int} (h : x < 0 ∨ bl.length ≤ x) : mark bl x = bl := by
  unfold mark; rw [if_neg (by omega)]
theorem mark_getD (bl : List Bool) (x : Int) (i : Nat) (hi : i < bl.length) : (mark bl x).getD i false = (bl.getD i false || decide (x = (i : Int))) := by
  unfold mark
  split
  · rename_i h
    simp only [List.getD_eq_getElem?_getD, List.getElem?_set]
    by_cases e : x.toNat = i
    · have : x = (i : Int) := by omega
      subst this
      simp [hi]
    · have : ¬ x = (i : Int) := by omega
      simp [e, this]
  · have : ¬ x = (i : Int) := by omega
    simp [this]
theorem foldl_mark_getD (l : List Int) : ∀ (bl : List Bool) (i : Nat), i < bl.length → (l.foldl mark bl).getD i false = (bl.getD i false || l.contains (i : Int)) := by
  induction l with
  | nil => intro bl i hi; simp
  | cons x l ih =>
    intro bl i hi
    rw [List.foldl_cons, ih _ i (by rw [mark_len]; exact hi), mark_getD bl x i hi, Bool.or_assoc]
    congr 1
    rw [List.contains_cons]
    congr 1
    rw [Bool.eq_iff_iff, decide_eq_true_eq, beq_iff_eq]
    exact eq_comm
theorem blockTo_getD (G : List (List Int)) (th : List Bool) (k i : Nat) (hi : i < th.length) : (blockTo G th k).getD i false = (th.getD i false || (List.range k).any fun j => !th.getD j false && sees G j i) := by
  induction k with
  | zero => simp [blockTo]
  | succ k ih =>
    rw [blockTo_succ, List.range_succ, List.any_append, ← Bool.or_assoc, ← ih]
    unfold marks
    cases ht : th.getD k false with
    | true => simp only [List.any_cons, List.any_nil, Bool.or_false, ht, Bool.not_true, Bool.false_and, if_true]
    | false =>
      rw [if_neg (by simp), foldl_mark_getD _ _ _ (by rw [blockTo_len]; exact hi)]
      congr 1
      simp only [List.any_cons, List.any_nil, Bool.or_false, ht, Bool.not_false, Bool.true_and]
      rfl
/-- The nodes that are not blocked, of the first m. -/
def freeTo (bl : List Bool) (m : Nat) : List Nat := (List.range m).filter fun i => !bl.getD i false
theorem freeTo_succ (bl : List Bool) (m : Nat) : freeTo bl (m + 1) = if bl.getD m false then freeTo bl m else freeTo bl m ++ [m] := by
  unfold freeTo
  rw [List.range_succ, List.filter_append]
  cases h : bl.getD m false
  · rw [if_neg (by simp), List.filter_cons_of_pos (by simp only [h, Bool.not_false]), List.filter_nil]
  · rw [if_pos rfl, List.filter_cons_of_neg (by simp only [h, Bool.not_true]; simp), List.filter_nil, List.append_nil]
theorem freeTo_len (bl : List Bool) (m : Nat) : (freeTo bl m).length ≤ m := by
  have := List.length_filter_le (fun i => !bl.getD i false) (List.range m)
  simpa [freeTo] using this
theorem freeTo_next (G : List (List Int)) (out : List Nat) : freeTo (blockTo G (thOf G.length out) G.length) G.length = nextO G out := by
  unfold freeTo nextO
  apply List.filter_congr
  intro i hi
  have hi := List.mem_range.1 hi
  rw [blockTo_getD _ _ _ _ (by rw [thOf_len]; exact hi), thOf_getD hi, Bool.not_or]
  congr 1
  rw [Bool.eq_iff_iff]
  simp only [Bool.not_eq_true', List.any_eq_false, List.mem_range, Bool.and_eq_true, not_and, Bool.not_eq_true, List.all_eq_true, Bool.or_eq_true]
  constructor
  · intro h k hk
    cases hc : out.contains k with
    | true => exact .inl rfl
    | false => exact .inr (by rw [h k hk (by rw [thOf_getD hk, hc])])
  · intro h k hk hc
    rw [thOf_getD hk] at hc
    rcases h k hk with h1 | h1
    · rw [h1] at hc; cases hc
    · simpa using h1
theorem next_len (G : List (List Int)) (out : List Nat) : (nextO G out).length ≤ G.length := by
  have := List.length_filter_le (fun i => !out.contains i && (List.range G.length).all fun k => out.contains k || !sees G k i) (List.range G.length)
  simpa [nextO] using this
end Go.Proofs.Ytkeiphmhckkniaa
