/-
  Nodes that reach each other: plain Lean.
  No condition.
-/
import Derived.Test.YtkeiphmhckkniaaWtReachP
namespace Go.Proofs.Ytkeiphmhckkniaa
open Go Go.RowKit

def eqvB (G : List (List Int)) (a b : Nat) : Bool := decide (a = b) || (wayP G a b && wayP G b a)
theorem eqvB_iff {G : List (List Int)} {a b : Nat} : eqvB G a b = true ↔ a = b ∨ (Leads G a b ∧ Leads G b a) := by
  unfold eqvB
  simp only [Bool.or_eq_true, decide_eq_true_eq, Bool.and_eq_true, wayP_iff]
theorem eqvB_symm {G : List (List Int)} {a b : Nat} (h : eqvB G a b = true) : eqvB G b a = true := by
  rw [eqvB_iff] at h ⊢
  exact h.imp (fun e => e.symm) fun h => ⟨h.2, h.1⟩
theorem eqvB_trans {G : List (List Int)} {a b c : Nat} (h : eqvB G a b = true) (k : eqvB G b c = true) : eqvB G a c = true := by
  rw [eqvB_iff] at h k ⊢
  rcases h with rfl | h
  · exact k
  · rcases k with rfl | k
    · exact .inr h
    · exact .inr ⟨h.1.trans k.1, k.2.trans h.2⟩
/-- It stands in a part of one of the first m. -/
def doneB (G : List (List Int)) (m k : Nat) : Bool := (List.range m).any fun j => eqvB G j k
theorem doneB_iff {G : List (List Int)} {m k : Nat} : doneB G m k = true ↔ ∃ j, j < m ∧ eqvB G j k = true := by
  unfold doneB
  simp only [List.any_eq_true, List.mem_range]
theorem doneB_succ {G : List (List Int)} {m k : Nat} : doneB G (m + 1) k = (doneB G m k || eqvB G m k) := by unfold doneB; simp [List.range_succ, List.any_append]
theorem doneB_skip {G : List (List Int)} {m k : Nat} (h : doneB G m m = true) : doneB G (m + 1) k = doneB G m k := by
  rw [doneB_succ]
  cases h2 : eqvB G m k with
  | false => simp
  | true =>
    obtain ⟨j, hj, h3⟩ := doneB_iff.1 h
    rw [doneB_iff.2 ⟨j, hj, eqvB_trans h3 h2⟩]; rfl
def partOf (G : List (List Int)) (i : Nat) : List Nat := (List.range G.length).filter fun k => eqvB G i k
/-- The parts of the first m. -/
def partsTo (G : List (List Int)) (m : Nat) : List (List Int) := ((List.range m).filter fun i => !doneB G i i).map fun i => ints (partOf G i)
def partsP (G : List (List Int)) : List (List Int) := partsTo G G.length
theorem partsTo_skip {G : List (List Int)} {m : Nat} (h : doneB G m m = true) : partsTo G (m + 1) = partsTo G m := by
  unfold partsTo; simp [List.range_succ, h]
theorem partsTo_take {G : List (List Int)} {m : Nat} (h : doneB G m m = false) : partsTo G (m + 1) = partsTo G m ++ [ints (partOf G m)] := by
  unfold partsTo; simp [List.range_succ, h]
theorem partsTo_len (G : List (List Int)) (m : Nat) : (partsTo G m).length ≤ m := by
  unfold partsTo
  rw [List.length_map]
  have := List.length_filter_le (fun i => !doneB G i i) (List.range m)
  simpa using this
theorem partOf_len (G : List (List Int)) (m : Nat) : (partOf G m).length ≤ G.length := by
  unfold partOf
  have := List.length_filter_le (fun k => eqvB G m k) (List.range G.length)
  simpa using this
/-- What the program picks of those that i reaches. -/
def pickB (G : List (List Int)) (i : Nat) (x : Int) : Bool := decide ((i : Int) < x) && (reachP G x.toNat).contains (i : Int)
theorem contains_reach {G : List (List Int)} {s t : Nat} : (reachP G s).contains (t : Int) = wayP G s t := by
  rw [Bool.eq_iff_iff, List.contains_iff_mem, mem_reachP, wayP_iff]
  exact ⟨fun ⟨u, e, h⟩ => by rw [show t = u by omega]; exact h, fun h => ⟨t, rfl, h⟩⟩
theorem ints_inc {l : List Nat} (h : l.Pairwise (· < ·)) : Inc (ints l) := by
  unfold Inc ints
  rw [List.pairwise_map]
  exact h.imp fun h => by omega
theorem mem_ints {l : List Nat} {y : Int} : y ∈ ints l ↔ ∃ k : Nat, y = (k : Int) ∧ k ∈ l := by
  unfold ints
  rw [List.mem_map]
  exact ⟨fun ⟨k, h, e⟩ => ⟨k, e.symm, h⟩, fun ⟨k, e, h⟩ => ⟨k, h, e.symm⟩⟩
theorem part_picks {G : List (List Int)} {i : Nat} (hi : i < G.length) (h : doneB G i i = false) : (i : Int) :: (reachP G i).filter (pickB G i) = ints (partOf G i) := by
  refine inc_ext ?_ (ints_inc ((List.pairwise_lt_range).filter _)) fun y => ?_
  · unfold Inc
    rw [List.pairwise_cons]
    refine ⟨fun y hy => ?_, (reachP_inc G i).filter _⟩
    have := (List.mem_filter.1 hy).2
    unfold pickB at this
    simp only [Bool.and_eq_true, decide_eq_true_eq] at this
    exact this.1
  · rw [List.mem_cons, mem_ints, List.mem_filter]
    unfold partOf
    constructor
    · rintro (rfl | ⟨h1, h2⟩)
      · exact ⟨i, rfl, List.mem_filter.2 ⟨List.mem_range.2 hi, eqvB_iff.2 (.inl rfl)⟩⟩
      · obtain ⟨t, rfl, hl⟩ := mem_reachP.1 h1
        unfold pickB at h2
        rw [Int.toNat_natCast, contains_reach] at h2
        simp only [Bool.and_eq_true, decide_eq_true_eq, wayP_iff] at h2
        exact ⟨t, rfl, List.mem_filter.2 ⟨List.mem_range.2 hl.lt, eqvB_iff.2 (.inr ⟨hl, h2.2⟩)⟩⟩
    · rintro ⟨k, rfl, hk⟩
      obtain ⟨hk1, hk2⟩ := List.mem_filter.1 hk
      rcases eqvB_iff.1 hk2 with rfl | ⟨h1, h2⟩
      · exact .inl rfl
      · by_cases e : k = i
        · exact .inl (by rw [e])
        · refine .inr ⟨mem_reachP.2 ⟨k, rfl, h1⟩, ?_⟩
          unfold pickB
          rw [Int.toNat_natCast, contains_reach]
          simp only [Bool.and_eq_true, decide_eq_true_eq, wayP_iff]
          refine ⟨?_, h2⟩
          rcases Nat.lt_or_ge k i with hlt | hge
          · have := doneB_iff.2 ⟨k, hlt, eqvB_symm hk2⟩
            rw [h] at this; cases this
          · omega
/-- The marks that count: of those from m on. -/
def MarkOk (G : List (List Int)) (m : Nat) (d : List Bool) : Prop := d.length = G.length ∧ ∀ k, m ≤ k → k < G.length → d.getD k false = doneB G m k
theorem MarkOk.start (G : List (List Int)) : MarkOk G 0 (List.replicate G.length false) := ⟨by simp, fun k _ hk => by rw [List.getD_eq_getElem?_getD, List.getElem?_replicate, if_pos hk]; rfl⟩
theorem MarkOk.skip {G : List (List Int)} {m : Nat} {d : List Bool} (h : MarkOk G m d) (hm : doneB G m m = true) : MarkOk G (m + 1) d := ⟨h.1, fun k h1 h2 => by rw [doneB_skip hm]; exact h.2 k (by omega) h2⟩
theorem getD_setB {F : List Bool} {k j : Nat} {d : Bool} (hk : k < F.length) : (F.set k d).getD j false = if j = k then d else F.getD j false := by
  by_cases e : j = k
  · subst e
    rw [if_pos rfl, List.getD_eq_getElem?_getD, List.getElem?_set_self hk]; rfl
  · rw [if_neg e, List.getD_eq_getElem?_getD, List.getElem?_set_ne (fun h => e h.symm), ← List.getD_eq_getElem?_getD]
/-- While those that i reaches are looked at. -/
def MarkIn (G : List (List Int)) (i : Nat) (pre : List Int) (d : List Bool) : Prop := d.length = G.length ∧ ∀ k, i < k → k < G.length → d.getD k false = (doneB G i k || (pre.contains (k : Int) && wayP G k i))
theorem MarkIn.start {G : List (List Int)} {i : Nat} {d : List Bool} (h : MarkOk G i d) : MarkIn G i [] d := ⟨h.1, fun k h1 h2 => by rw [h.2 k (by omega) h2]; simp⟩
theorem cont_snoc {pre : List Int} {x : Int} {k : Nat} : (pre ++ [x]).contains (k : Int) = (pre.contains (k : Int) || decide (x = (k : Int))) := by
  rw [Bool.eq_iff_iff, Bool.or_eq_true, List.contains_iff_mem, List.contains_iff_mem, decide_eq_true_eq, List.mem_append, List.mem_singleton]
  exact ⟨fun h => h.imp id fun h => h.symm, fun h => h.imp id fun h => h.symm⟩
theorem MarkIn.skip {G : List (List Int)} {i t : Nat} {pre : List Int} {d : List Bool} (h : MarkIn G i pre d) (ht : pickB G i (t : Int) = false) : MarkIn G i (pre ++ [(t : Int)]) d := ⟨h.1, fun k h1 h2 => by
  rw [h.2 k h1 h2, cont_snoc]
  by_cases e : t = k
  · subst e
    unfold pickB at ht
    rw [Int.toNat_natCast, contains_reach] at ht
    have h3 : decide ((i : Int) < (t : Int)) = true := decide_eq_true (by omega)
    rw [h3, Bool.true_and] at ht
    rw [ht]; simp
  · have : decide ((t : Int) = (k : Int)) = false := decide_eq_false (by omega)
    rw [this, Bool.or_false]⟩
theorem MarkIn.put {G : List (List Int)} {i t : Nat} {pre : List Int} {d : List Bool} (h : MarkIn G i pre d) (hl : t < G.length) (ht : pickB G i (t : Int) = true) : MarkIn G i (pre ++ [(t : Int)]) (d.set t true) := ⟨by simp [h.1], fun k h1 h2 => by
  rw [getD_setB (by rw [h.1]; exact hl), cont_snoc]
  by_cases e : k = t
  · subst e
    unfold pickB at ht
    rw [Int.toNat_natCast, contains_reach] at ht
    simp only [Bool.and_eq_true] at ht
    rw [if_pos rfl, ht.2]; simp
  · have : decide ((t : Int) = (k : Int)) = false := decide_eq_false (by omega)
    rw [if_neg e, h.2 k h1 h2, this, Bool.or_false]⟩
theorem MarkIn.done {G : List (List Int)} {i : Nat} {d : List Bool} (h : MarkIn G i (reachP G i) d) : MarkOk G (i + 1) d := ⟨h.1, fun k h1 h2 => by
  rw [h.2 k (by omega) h2, doneB_succ, contains_reach]
  unfold eqvB
  have : decide (i = k) = false := decide_eq_false (by omega)
  rw [this, Bool.false_or]⟩
/-- The document marks as it goes: of the first m. -/
def MarkTo (G : List (List Int)) (i m : Nat) (d : List Bool) : Prop := d.length = G.length ∧ ∀ k, i < k → k < G.length → d.getD k false = (doneB G i k || (decide (k < m) && eqvB G i k))
theorem MarkTo.start {G : List (List Int)} {i : Nat} {d : List Bool} (h : MarkOk G i d) : MarkTo G i 0 d := ⟨h.1, fun k h1 h2 => by rw [h.2 k (by omega) h2]; simp⟩
theorem MarkTo.skip {G : List (List Int)} {i m : Nat} {d : List Bool} (h : MarkTo G i m d) (hm : eqvB G i m = false) : MarkTo G i (m + 1) d := ⟨h.1, fun k h1 h2 => by
  rw [h.2 k h1 h2]
  by_cases e : k = m
  · subst e; rw [hm]; simp
  · have : decide (k < m + 1) = decide (k < m) := by rw [decide_eq_decide]; omega
    rw [this]⟩
theorem MarkTo.put {G : List (List Int)} {i m : Nat} {d : List Bool} (h : MarkTo G i m d) (hl : m < G.length) (hm : eqvB G i m = true) : MarkTo G i (m + 1) (d.set m true) := ⟨by simp [h.1], fun k h1 h2 => by
  rw [getD_setB (by rw [h.1]; exact hl)]
  by_cases e : k = m
  · subst e; rw [if_pos rfl, hm, decide_eq_true (by omega : k < k + 1)]; simp
  · have : decide (k < m + 1) = decide (k < m) := by rw [decide_eq_decide]; omega
    rw [if_neg e, h.2 k h1 h2, this]⟩
theorem MarkTo.done {G : List (List Int)} {i : Nat} {d : List Bool} (h : MarkTo G i G.length d) : MarkOk G (i + 1) d := ⟨h.1, fun k h1 h2 => by
  rw [h.2 k (by omega) h2, doneB_succ, decide_eq_true h2, Bool.true_and]⟩
def partTo (G : List (List Int)) (i m : Nat) : List Nat := (List.range m).filter fun k => eqvB G i k
theorem partTo_skip {G : List (List Int)} {i m : Nat} (h : eqvB G i m = false) : partTo G i (m + 1) = partTo G i m := by unfold partTo; simp [List.range_succ, h]
theorem partTo_put {G : List (List Int)} {i m : Nat} (h : eqvB G i m = true) : partTo G i (m + 1) = partTo G i m ++ [m] := by unfold partTo; simp [List.range_succ, h]
theorem partTo_len (G : List (List Int)) (i m : Nat) : (partTo G i m).length ≤ m := by
  unfold partTo
  have := List.length_filter_le (fun k => eqvB G i k) (List.range m)
  simpa using this
theorem partTo_all (G : List (List Int)) (i : Nat) : partTo G i G.length = partOf G i := rfl
/-- The document's reach. -/
def reachTo (G : List (List Int)) (s m : Nat) : List Nat := (List.range m).filter fun t => wayP G s t
theorem reachTo_skip {G : List (List Int)} {s m : Nat} (h : wayP G s m = false) : reachTo G s (m + 1) = reachTo G s m := by unfold reachTo; simp [List.range_succ, h]
theorem reachTo_put {G : List (List Int)} {s m : Nat} (h : wayP G s m = true) : reachTo G s (m + 1) = reachTo G s m ++ [m] := by unfold reachTo; simp [List.range_succ, h]
theorem reachTo_len (G : List (List Int)) (s m : Nat) : (reachTo G s m).length ≤ m := by
  unfold reachTo
  have := List.length_filter_le (fun k => wayP G s k) (List.range m)
  simpa using this
theorem reachTo_all (G : List (List Int)) (s : Nat) : ints (reachTo G s G.length) = reachP G s := rfl
end Go.Proofs.Ytkeiphmhckkniaa
